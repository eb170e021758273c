/- The walks of layer 30 (auto): Witness. -/
import Derived.Test.YtiebpncpdbnelaaDoorMk
import Derived.Test.YtiebpncpdbnelaaDoorZbu
namespace Go.Proofs.YtiebpncpdbnelaaDoor
open Go.RowKit Go.Shelf
attribute [local go_sem] Oper.semAt_some
set_option maxHeartbeats 8000000 in
set_option maxRecDepth 100000 in
theorem witness_in (m : Nat) (hm : 8 ≤ m) (a : Aut) (Ai : Option Addr) (ni ci : Nat) (An : Option Addr) (nn cn : Nat) (w : World) (B : Nat) (h : AutRd w B a Ai ni ci An nn cn) (hB : B ≤ w.heap.size) (hT : TabAt 0 Lib.deBruijn64tab w) (hg : 0 < w.heap.size)
  (hnd : ∀ x ∈ a.nodes, x.need < 2 ^ 64 ∧ x.ban < 2 ^ 64) (hinn : ∀ x ∈ a.nodes, x.inn < 2 ^ 64) (KE : Nat) (hr : ∀ x ∈ a.nodes, x.to.length ≤ KE) (hri : a.init.length ≤ 100000000) (hKE : KE ≤ 1000000) :
  CallsIn Fence.wide m Tryd.prog 31 #[.agg #[.int .i64 a.sets, .slice Ai ni ci, .slice An nn cn]] w (WitPost w a) := by
 have h1m : 1 ≤ m := by omega
 obtain ⟨hb0, x0, y0, u0, z0⟩ := three_new w (.cells #[.int .i64 a.sets, .slice Ai ni ci, .slice An nn cn] 25) (.cells #[.slice none 0 0, .slice none 0 0] 29) (.cells #[.bool false] 4)
 obtain ⟨W0, hW0⟩ : ∃ W0, ((w.alloc (.cells #[.int .i64 a.sets, .slice Ai ni ci, .slice An nn cn] 25)).alloc (.cells #[.slice none 0 0, .slice none 0 0] 29)).alloc (.cells #[.bool false] 4) = W0 := ⟨_, rfl⟩
 rw [hW0] at hb0 x0 y0 u0 z0
 have HR0 := Lib.hid (h.below hb0 hB)
 have HC0 := Lib.hid (autoCheck_any a Ai ni ci An nn cn W0 B HR0.out (by omega) hri (fun x hx => by have := hr x hx; omega))
 have HW0 := Lib.hid hW0
 have HB0 := Lib.hid hb0
 have HX0 := Lib.hid x0
 have HY0 := Lib.hid y0
 have HU0 := Lib.hid u0
 have HZ0 := Lib.hid z0
 have HG := Lib.hid hg
 have HTB := Lib.hid hT
 clear hW0 hb0 x0 y0 u0 z0 h hT hg
 refine callsIn_of_wp_marks Tryd.func31 rfl trivial ?_ rfl
 refine wpIn_wide.2 ?_
 simp only [Tryd.ntmps31, List.size_toArray, List.length_cons, List.length_nil, Nat.reduceAdd, Nat.reduceSub, Array.replicate_succ, Array.replicate_zero, List.push_toArray, List.append_toArray, List.nil_append, List.cons_append]
 go_upto_region 1 with fail
 rw [HW0.out]
 have q0 : W0.cell? ⟨w.heap.size, 0, none⟩ = some (.int .i64 a.sets) := by rw [cell_of_row _ _ _ _ _ (0, 0) HX0.out]; rfl
 have q1 : W0.cell? ⟨w.heap.size, 1, none⟩ = some (.slice Ai ni ci) := by rw [cell_of_row _ _ _ _ _ (0, 0) HX0.out]; rfl
 have q2 : W0.cell? ⟨w.heap.size, 2, none⟩ = some (.slice An nn cn) := by rw [cell_of_row _ _ _ _ _ (0, 0) HX0.out]; rfl
 go_wp2_with fail
 refine HC0.out.mono ?_
 rintro e w1 ⟨rfl, hb1⟩
 have hx1 : w1.heap[w.heap.size]? = some _ := (hb1.block w.heap.size (by have := HZ0.out; omega)).trans HX0.out
 have hy1 : w1.heap[w.heap.size + 1]? = some _ := (hb1.block (w.heap.size + 1) (by have := HZ0.out; omega)).trans HY0.out
 have hu1 : w1.heap[w.heap.size + 1 + 1]? = some _ := (hb1.block (w.heap.size + 1 + 1) (by have := HZ0.out; omega)).trans HU0.out
 have hz1 := hb1.size
 have HB1 := Lib.hid hb1
 have HBB := Lib.hid (HB0.out.trans (HB1.out.mono (show w.heap.size ≤ W0.heap.size by have := HZ0.out; omega)))
 clear hb1 q0 q1 q2
 by_cases hck : chkA a = 0
 ·have HCK := Lib.hid hck
  obtain ⟨hn256, ⟨hs0, hs16⟩, hA, -⟩ := chk_iff.1 hck
  have HOK := Lib.hid hA
  obtain ⟨s, hss⟩ : ∃ s : Nat, a.sets = s := ⟨a.sets.toNat, by omega⟩
  have HX1 := Lib.hid hx1
  have HY1 := Lib.hid hy1
  have HU1 := Lib.hid hu1
  have hx1' := hx1
  rw [hss] at hx1'
  have q0 : w1.cell? ⟨w.heap.size, 0, none⟩ = some (.int .i64 (s : Int)) := by rw [cell_of_row _ _ _ _ _ (0, 0) hx1']; rfl
  have q1 : w1.cell? ⟨w.heap.size, 1, none⟩ = some (.slice Ai ni ci) := by rw [cell_of_row _ _ _ _ _ (0, 0) hx1']; rfl
  have q2 : w1.cell? ⟨w.heap.size, 2, none⟩ = some (.slice An nn cn) := by rw [cell_of_row _ _ _ _ _ (0, 0) hx1']; rfl
  have HNN := Lib.hid HR0.out.enn
  have hnn : nn ≤ 256 := by rw [HNN.out]; exact hn256
  have HR1 := Lib.hid (HR0.out.below HB1.out (show B ≤ W0.heap.size by have := HZ0.out; omega))
  have HOV := Lib.hid (over_any a s Ai ni ci An nn cn w1 B HR1.out (by have := HZ0.out; omega) HOK.out (by omega) hnd hri (by omega) (fun x hx => by have := hr x hx; omega))
  have HSS := Lib.hid hss
  rw [hck]
  clear hx1 hx1' hy1 hu1 hss hck hn256
  go_wp2_with fail
  refine HOV.out.mono ?_
  rintro e w3 hp
  obtain ⟨pi, qi, ri, pe, qe, re, pl, ql, rl, pc, qc, rc, vs, rfl, how, hb3⟩ := hp.owned
  have hpl := how.rd
  have HQI := Lib.hid hpl.eni
  have HQE : Hid (qe = nn) := Lib.hid (by have := hpl.ene; rw [openE_len] at this; rw [this, HNN.out])
  have HQL : Hid (ql = nn) := Lib.hid (by have := hpl.enl; rw [this, HNN.out]; simp [needsA])
  have HQC : Hid (qc = nn) := Lib.hid (by have := hpl.enc; rw [this, insA_len, HNN.out])
  have HOW3 := Lib.hid how
  have HB3 := Lib.hid hb3
  have hz3 := hb3.size
  clear hp hpl hb3 how q0 q1 q2
  obtain ⟨W3, hW3⟩ : ∃ X, w3.alloc (.cells #[.slice pi qi ri, .slice pe qe re, .slice pl ql rl, .slice pc qc rc, .int .u64 (allB s : Int)] 74) = X := ⟨_, rfl⟩
  have HW3 := Lib.hid hW3
  have hbW3 : Below w3.heap.size w3 W3 := by rw [← hW3]; exact (Below.refl _ _).alloc (Nat.le_refl _) _
  have hzW3 : W3.heap.size = w3.heap.size + 1 := by rw [← hW3]; simp
  have hp3 : W3.heap[w3.heap.size]? = some (.cells #[.slice pi qi ri, .slice pe qe re, .slice pl ql rl, .slice pc qc rc, .int .u64 (allB s : Int)] 74 (0, 0)) := by rw [← hW3]; exact heap_alloc_new w3 _
  have HBW3 := Lib.hid (HB3.out.trans (hbW3.mono hz3))
  obtain ⟨p0, p1, p2, p3, p4⟩ := box5A hp3
  have HPG := Lib.hid (playGood_any (.slice pi qi ri) (.slice pe qe re) (.slice pl ql rl) (.slice pc qc rc) (.int .u64 (allB s : Int)))
  obtain ⟨W4, hW4⟩ : ∃ X, W3.alloc (.cells #[.slice pi qi ri, .slice pe qe re, .slice pl ql rl, .slice pc qc rc, .int .u64 (allB s : Int)] 74) = X := ⟨_, rfl⟩
  have hb4 : Below W3.heap.size W3 W4 := by rw [← hW4]; exact (Below.refl _ _).alloc (Nat.le_refl _) _
  have hz4 : W4.heap.size = w3.heap.size + 2 := by rw [← hW4]; simp; omega
  have hq4 : W4.heap[w3.heap.size + 1]? = some (.cells #[.slice pi qi ri, .slice pe qe re, .slice pl ql rl, .slice pc qc rc, .int .u64 (allB s : Int)] 74 (0, 0)) := by rw [← hW4, ← hzW3]; exact heap_alloc_new W3 _
  have HP4 := Lib.hid ((hb4.block w3.heap.size (by omega)).trans hp3)
  have HQ4 := Lib.hid hq4
  have HOW4 := Lib.hid (HOW3.out.tch (M := fun _ => False) (((below_tch hbW3).then_ ((below_tch hb4)))) (fun k e => e.elim))
  have HBW4 := Lib.hid (HBW3.out.trans (hb4.mono (show w1.heap.size ≤ W3.heap.size by omega)))
  have HY4 := Lib.hid ((HBW4.out.block (w.heap.size + 1) (by have := HZ0.out; omega)).trans HY1.out)
  have HU4 := Lib.hid ((HBW4.out.block (w.heap.size + 1 + 1) (by have := HZ0.out; omega)).trans HU1.out)
  have HW4 := Lib.hid hW4
  have HHZ4 := Lib.hid hz4
  clear hW3 hbW3 hp3 hW4 hb4 hq4 hz4
  go_upto_region 4 with fail
  rw [HW3.out]
  go_wp2_with fail
  refine (HPG.out _).mono ?_
  rintro e w' ⟨rfl, rfl⟩
  go_wp2_with fail
  rw [HW4.out]
  have hz4 := HHZ4.out
  have hz0 := HZ0.out
  clear p0 p1 p2 p3 p4
  have hWW : Below w.heap.size w W4 := HBB.out.trans (HBW4.out.mono (show w.heap.size ≤ w1.heap.size by omega))
  have HWW := Lib.hid hWW
  have hM0 : ∀ k, (fun k => k = w.heap.size + 1 ∨ k = w.heap.size + 1 + 1) k → k < W4.heap.size := fun k e => by rcases e with e | e <;> omega
  have hM1 : ∀ k, (fun k => k = w.heap.size + 1 ∨ k = w.heap.size + 1 + 1) k → k < w1.heap.size := fun k e => by rcases e with e | e <;> omega
  have hM2 : ∀ k, (fun k => k = w.heap.size + 1 ∨ k = w.heap.size + 1 + 1) k → w.heap.size ≤ k := fun k e => by rcases e with e | e <;> omega
  have hqe : qe ≤ 256 := by rw [HQE.out]; exact hnn
  have hqc : qc ≤ 256 := by rw [HQC.out]; exact hnn
  have hql : ql ≤ 256 := by rw [HQL.out]; exact hnn
  have HIL : Hid ((insA a).length = (openE a).length) := Lib.hid (by rw [insA_len, openE_len])
  refine (wpIn_wide (n := m)).1 ?_
  refine wpIn_rangeFunc_R rfl h1m (gf := 96) (lb := #[.pointer (some ⟨w3.heap.size + 1, 0, none⟩)]) rfl trivial (enters_of Tryd.func96 (by kernel_rfl) rfl)
   (good_K (m - 1) (by omega) (openE a) (insA a) s (.slice pi qi ri) (.slice pl ql rl) pe qe re pc qc rc (w3.heap.size + 1) (fun k => k = w.heap.size + 1 ∨ k = w.heap.size + 1 + 1) W4 hM0 (fun W' ht => have hrd := (HOW4.out.tch ht hM1).rd; ⟨hrd.g.he, hrd.i⟩) HQ4.out (fun e => by rcases e with e | e <;> omega) (open_nd HOK.out) (by omega) (fun r h => by have := open_row hr r h; omega) HIL.out (ins_lt hinn) (by have := HSS.out; omega))
   hM0 (fun x N args W hx => by obtain ⟨u, rfl, _⟩ := hx; rfl) (fun x N N' args W hN hx => hx.mono hN)
   (fun (s' : List (List Nat) × (Nat → Prop)) X => ((∀ l ∈ s'.1, (pathE (openE a) (partG (openE a).length l) (openI a)).2 = false) ∧ X.heap[w.heap.size + 1]? = some (.cells #[.slice none 0 0, .slice none 0 0] 29 (0, 0)) ∧ X.heap[w.heap.size + 1 + 1]? = some (.cells #[.bool false] 4 (0, 0))) ∧ (Rnd (fun k => k = w.heap.size + 1 ∨ k = w.heap.size + 1 + 1) W4 s'.2 X ∧ (s'.2 (w.heap.size + 1) ∧ s'.2 (w.heap.size + 1 + 1))))
   (fun c s' X => c = .ret ∧ WSt w a w1.heap.size (w.heap.size + 1) (w.heap.size + 1 + 1) X)
   (OwnFrom.and (OwnFrom.and (ownFrom_pure _ _) (OwnFrom.and (cells_own _ _ _ _ _) (cells_own _ _ _ _ _))) (OwnFrom.and (ownFrom_rnd (Nat.le_refl _) (fun s' : List (List Nat) × (Nat → Prop) => s'.2)) (ownFrom_pure _ _)))
   (fun c => OwnFrom.and (ownFrom_pure _ _) (wst_own w a _ _ _ _ hWW.size))
   ⟨⟨fun l hl => (by cases hl), HY4.out, HU4.out⟩, Rnd.refl hM0, .inl rfl, .inr rfl⟩
   (fun (x : List Nat) a' V => ∃ Au cu, a' = { tmps := #[.agg #[.int .i64 a.sets, .slice Ai ni ci, .slice An nn cn], .pointer (some ⟨w.heap.size, 0, none⟩), .pointer (some ⟨w.heap.size + 1, 0, none⟩), .pointer (some ⟨w.heap.size + 1 + 1, 0, none⟩), .pointer (some ⟨w3.heap.size, 0, none⟩), .slice Au x.length cu, undef, undef, undef, undef, undef, undef, undef, undef, undef, undef, .agg #[.int .i64 a.sets, .slice Ai ni ci, .slice An nn cn], .int .i64 0, .bool false, undef, .agg #[.int .i64 (s : Int), .slice Ai ni ci, .slice An nn cn], .agg #[.slice pi qi ri, .slice pe qe re, .slice pl ql rl, .slice pc qc rc, .int .u64 (allB s : Int)], .agg #[.slice pi qi ri, .slice pe qe re, .slice pl ql rl, .slice pc qc rc, .int .u64 (allB s : Int)], .func (.func 96) #[] #[.pointer (some ⟨w3.heap.size + 1, 0, none⟩)], .slice Au x.length cu, undef, undef, undef, undef, undef, undef, undef, undef, undef, undef, undef, undef, undef, undef, undef, undef, undef, undef, undef, undef, undef, undef, undef, undef, undef, undef, undef, undef, undef, undef, undef, undef, undef, undef, undef, undef, undef, undef, undef, undef, undef, undef, undef, undef, undef, undef, undef, undef, undef, undef, undef, undef, undef, undef, undef, undef, undef, undef, undef, undef, undef, undef, undef, undef, undef, undef, undef, undef, undef, undef, undef, undef, undef, undef, undef, undef], defers := [] } ∧ V.ownsRow 0 3 1 (.slice Au x.length cu) x.length (icells (natI x)) ∧ ∀ g, (Value.slice Au x.length cu).ownBlock = some g → ¬ (g = w.heap.size + 1 ∨ g = w.heap.size + 1 + 1))
   (fun x a' s X Y row hx hg hrr => by
    obtain ⟨Au, cu, h1, h2, h3⟩ := hx
    exact ⟨Au, cu, h1, row_own _ _ _ _ _ _ _ () X Y row h2 hg hrr, h3⟩) ?assign ?body ?done ?stop
  case assign =>
   intro l2 pre x N1 args V K hi hx hlen hK
   obtain ⟨u, rfl, hu, hNu⟩ := hx
   obtain ⟨Au, cu, rfl, -⟩ := own_sl hu
   gi_wp2
   exact hK _ _ (Tch.refl _ _) hi ⟨Au, cu, rfl, hu, fun g hg e => hNu g hg (e.elim (fun e => e ▸ hi.2.2.1) (fun e => e ▸ hi.2.2.2))⟩
  case body =>
   rintro l2 pre x N1 a2 X hl2 _ _ hNX ⟨⟨hno, hy, hu⟩, hrnd, hN1, hN2⟩ ⟨Au, cu, rfl, hox, hxM⟩ hlen
   dsimp only at hno hrnd hN1 hN2
   have hzX := hrnd.tch.size
   have hxm : x ∈ goodL (openE a) (insA a) s := by
    obtain ⟨t, ht⟩ := hlen
    rw [← ht]; simp
   obtain ⟨⟨mm, hmm, hxl⟩, hxn, hcy, hmet⟩ := good_facts hxm
   have hpo := HOW4.out.tch hrnd.tch hM1
   have hrd := hpo.rd
   have hpX : X.heap[w3.heap.size]? = some (.cells #[.slice pi qi ri, .slice pe qe re, .slice pl ql rl, .slice pc qc rc, .int .u64 (allB s : Int)] 74 (0, 0)) := (hrnd.tch.block w3.heap.size (by omega) (fun e => by rcases e with e | e <;> omega)).trans HP4.out
   have hbwX := HWW.out.trans (rnd_below hrnd (show w.heap.size ≤ W4.heap.size by omega) hM2)
   obtain ⟨np, hnp⟩ : ∃ k, x.length = k := ⟨_, rfl⟩
   have HNP := Lib.hid hnp
   rw [hnp] at hox ⊢
   have HXL := Lib.hid hxl
   have HXN := Lib.hid hxn
   have HCY := Lib.hid hcy
   have HMET := Lib.hid hmet
   have HXM := Lib.hid hxm
   have HNO := Lib.hid hno
   have HY := Lib.hid hy
   have HU := Lib.hid hu
   have HRND := Lib.hid hrnd
   have HNX := Lib.hid hNX
   have HOX := Lib.hid hox
   have HPO := Lib.hid hpo
   have HRD := Lib.hid hrd
   have HPX := Lib.hid hpX
   have HBWX := Lib.hid hbwX
   have c3 : X.cell? ⟨w3.heap.size, 3, none⟩ = some (.slice pc qc rc) := by rw [cell_of_row _ _ _ _ _ (0, 0) hpX]; rfl
   have hmk := run_make_row' (P := Tryd.prog) 54 4 (.bool false) 1 Tryd.underlying54 infoB8 rfl .i64 .i64 qc (by omega) (by omega)
   have HQCE : Hid (qc = (openE a).length) := Lib.hid (by rw [openE_len, HQC.out, HNN.out])
   have HQEE : Hid (qe = (openE a).length) := Lib.hid (by rw [openE_len, HQE.out, HNN.out])
   clear hnp hxl hxn hcy hmet hxm hno hy hu hrnd hNX hox hpo hrd hpX hbwX hlen
   gi_wp2
   obtain ⟨X1, hX1⟩ : ∃ Y, X.alloc (.cells (madeCells #[.bool false] qc) 4) = Y := ⟨_, rfl⟩
   have hb1 : Below X.heap.size X X1 := by rw [← hX1]; exact (Below.refl _ _).alloc (Nat.le_refl _) _
   have hzX1 : X1.heap.size = X.heap.size + 1 := by rw [← hX1]; simp
   have hrow1 : X1.ownsRow X.heap.size 4 1 (.slice (some ⟨X.heap.size, 0, none⟩) qc qc) qc (bcells (List.replicate qc false)) := by
    have h1 := own_made (w := X) (base := X.heap.size) (e := 4) (v := .bool false) (n := qc) (Nat.le_refl _) (by unfold maxLen; omega)
    rw [hX1] at h1
    have e : bcells (List.replicate qc false) = List.replicate qc (.bool false) := by simp [bcells]
    rw [e]
    exact h1
   have HROW1 := Lib.hid hrow1
   have HBX1 := Lib.hid hb1
   rw [hX1]
   clear hX1 hmk hrow1 hb1
   gi_loopw [31] (fun i V' => ∃ q : Nat, q ≤ np ∧ i = .int .i64 (q : Int) ∧ Hid (V'.ownsRow X.heap.size 4 1 (.slice (some ⟨X.heap.size, 0, none⟩) qc qc) qc (bcells ((x.take q).foldl (fun r y => r.set y true) (List.replicate qc false)))) ∧ Hid (Tch (fun k => k = X.heap.size) X1 V')) (fun i _ => np - (intOf i).toNat)
   case atStart => exact ⟨0, by omega, rfl, HROW1, Lib.hid (Tch.refl _ _)⟩
   case round =>
    obtain ⟨q, hq, rfl, HRQ, HTQ⟩ := hrel
    have hzV := HTQ.out.size
    have HBQ := Lib.hid (HBX1.out.trans (HTQ.out.below (B := X.heap.size) (by omega) (fun k hk e => by have e : k = X.heap.size := e; omega)))
    by_cases hql' : q < np
    ·have hq0 : (0 : Int) ≤ (q : Int) := by omega
     have hq1 : (q : Int) < (np : Int) := by omega
     have hqP : q < x.length := by rw [HNP.out]; exact hql'
     obtain ⟨A', c', hf, hsu⟩ := own_sl (own_below HOX.out HBQ.out)
     cases hf
     obtain ⟨b1, o1, hA1, hb1, hcl⟩ := hsu.rd.at_ (nat_at hqP)
     have hcu := hsu.cap
     have hmu := hsu.max
     unfold maxLen at hmu
     have wq : IntKind.i64.wrap ((q : Int) + 1) = (q : Int) + 1 := by rw [IntKind.wrap_i64]; omega
     subst hA1
     obtain ⟨y, hy⟩ : ∃ y, x.getD q 0 = y := ⟨_, rfl⟩
     have hye : x[q] = y := by rw [← hy, List.getD_eq_getElem?_getD, List.getElem?_eq_getElem hqP]; rfl
     have hyN : y < qc := by have := ((HXL.out y).1 (by rw [← hye]; exact List.getElem_mem hqP)).1; have := HQCE.out; omega
     have hy0 : (0 : Int) ≤ (y : Int) := by omega
     have hy1 : (y : Int) < (qc : Int) := by omega
     have HSN : Hid ((x.take (q + 1)).foldl (fun r y => r.set y true) (List.replicate qc false) = ((x.take q).foldl (fun r y => r.set y true) (List.replicate qc false)).set y true) := Lib.hid (by rw [take_snoc x q hqP, hye, List.foldl_append]; rfl)
     have hgb := own_getB HRQ.out hyN
     have hf0 := hgb.1
     have hf1 := hgb.2.1
     have hgl := hgb.2.2.1
     rw [hy] at hcl
     clear hy hye hsu hgb
     gi_wp2
     go_roundw
     case rel => exact ⟨q + 1, by omega, congrArg (Value.int .i64) (by omega), Lib.hid (by rw [HSN.out]; exact own_setB HRQ.out), Lib.hid (HTQ.out.setCell (p := ⟨X.heap.size, y, none⟩) (fun _ => rfl) _)⟩
     case measure => simp [intOf]; omega
    ·have hqe' : q = np := by omega
     subst hqe'
     obtain ⟨V1, rfl⟩ : ∃ V1, V1 = wr := ⟨_, rfl⟩
     obtain ⟨gl, hgl⟩ : ∃ g, partG (openE a).length x = g := ⟨_, rfl⟩
     have hrq := HRQ.out
     rw [List.take_of_length_le (show x.length ≤ q by rw [HNP.out]; exact Nat.le_refl _), HQCE.out] at hrq
     have hrq : V1.ownsRow X.heap.size 4 1 (.slice (some ⟨X.heap.size, 0, none⟩) qc qc) qc (bcells gl) := by rw [← hgl, HQCE.out]; exact hrq
     have hglL : gl.length = qc := by rw [← hgl, partG_len, HQCE.out]
     obtain ⟨pp, hpp⟩ : ∃ p, pathE (openE a) gl (openI a) = p := ⟨_, rfl⟩
     have hrd1 := HRD.out.below HBQ.out (Nat.le_refl _)
     obtain ⟨A8, c8, hf8, hs8⟩ := own_sl hrq
     cases hf8
     have hpa := pathP_any pi pe pl qi ri qe re ql rl ⟨openI a, openE a, (needsA a).map (fun (x : Nat) => (x : Int))⟩ (openI a) gl pi qi ri (some ⟨X.heap.size, 0, none⟩) qc qc V1 V1.heap.size (hrd1.g.up HBQ.out.size) ((hrd1.g.hi).up HBQ.out.size) HQI.out hs8 hglL.symm (Nat.le_refl _) (by have := HQI.out; have h2 := List.length_filter_le (fun i => canB (a.at i.toNat)) a.init; have h3 : (openI a).length ≤ a.init.length := List.length_filter_le _ _; omega) (by omega) (by omega) (by have := HQI.out; have h3 : (openI a).length ≤ a.init.length := List.length_filter_le _ _; omega) (by omega) KE (open_row hr) (by have : qe * KE ≤ 256 * KE := Nat.mul_le_mul_right _ hqe; omega) (by omega)
     have hpe : pathG qe (farG qe (turnE (openE a)) (goalsG qe gl)) (openE a) (openI a) = pp := by rw [← hpp, HQEE.out]; rfl
     dsimp only at hpa
     rw [hpe] at hpa
     have HPA := Lib.hid hpa
     have HGL := Lib.hid hgl
     have HPP := Lib.hid hpp
     have hp1 : V1.heap[w3.heap.size]? = some (.cells #[.slice pi qi ri, .slice pe qe re, .slice pl ql rl, .slice pc qc rc, .int .u64 (allB s : Int)] 74 (0, 0)) := (HBQ.out.block w3.heap.size (by omega)).trans HPX.out
     obtain ⟨k0, k1, k2, k3, k4⟩ := box5A hp1
     have HRQ2 := Lib.hid hrq
     clear hrq hgl hglL hpp hrd1 hs8 hpa hpe hp1 k3 k4 c3 HPG HPO
     gi_wp2
     refine ⟨trivial, (fun h => by cases h), (CallsIn.inRound l2 (callsIn_wide.2 HPA.out)).mono ?_⟩
     rintro e w5 ⟨v5, rfl, ho5, hb5⟩
     obtain ⟨A5, c5, rfl, -⟩ := own_sl ho5
     have HO5 := Lib.hid ho5
     have HB5 := Lib.hid (HBQ.out.trans (hb5.mono HBQ.out.size))
     clear ho5 hb5 k0 k1 k2
     obtain ⟨p1, p2⟩ := pp
     dsimp only at *
     cases p2
     ·have hno' : (pathE (openE a) (partG (openE a).length x) (openI a)).2 = false := by rw [HGL.out, HPP.out]
      have HNO' := Lib.hid hno'
      clear hno'
      gi_wp2
      have htc : Tch N1 X w5 := below_tch HB5.out
      refine postT_ok (Rnd.of_tch htc HNX.out) ⟨⟨fun l hl => ?_, (HB5.out.block _ (by omega)).trans HY.out, (HB5.out.block _ (by omega)).trans HU.out⟩, HRND.out.tch_right htc, hN1, hN2⟩
      rcases List.mem_append.1 hl with hl | hl
      ·exact HNO.out l hl
      ·rw [List.mem_singleton.1 hl]; exact HNO'.out
     ·have hp2 : (pathE (openE a) (partG (openE a).length x) (openI a)).2 = true := by rw [HGL.out, HPP.out]
      obtain ⟨x0, v, p, e1, hw, hx0, hvx, hpl⟩ := part_way (fun z hz => ((HXL.out z).1 hz).1) hp2
      have e2 : p1 = natI (p ++ [v]) := by
       have := HPP.out
       rw [HGL.out] at e1
       rw [e1] at this
       exact (congrArg Prod.fst this).symm
      obtain ⟨n1, hn1⟩ : ∃ k, p.length = k := ⟨_, rfl⟩
      obtain ⟨n2, hn2⟩ : ∃ k, p1.length = k := ⟨_, rfl⟩
      have hnn2 : n2 = n1 + 1 := by rw [← hn2, e2, natI_len, List.length_append, hn1]; rfl
      have hn1l : n1 < 256 := by have := openE_len a; have := HNN.out; omega
      have hn1a : n1 < a.nodes.length := by have := openE_len a; omega
      rw [hn2] at HO5 ⊢
      have wn : IntKind.i64.wrap ((n2 : Int) - 1) = (n1 : Int) := by rw [IntKind.wrap_i64]; omega
      have ho5 := HO5.out
      rw [e2] at ho5
      obtain ⟨A', c', hf, hs5⟩ := own_sl ho5
      cases hf
      have hc5 := hs5.cap
      have hm5 := hs5.max
      unfold maxLen at hm5
      have hi0 : (0 : Int) ≤ (n1 : Int) := by omega
      have hi1 : (n1 : Int) ≤ (c5 : Int) := by omega
      have hi2 : n1 ≤ c5 := by omega
      obtain ⟨V0, hV0⟩ : ∃ Y, w5.alloc (.cells #[.slice none 0 0, .slice none 0 0] 29) = Y := ⟨_, rfl⟩
      have hb0' : Below w5.heap.size w5 V0 := by rw [← hV0]; exact (Below.refl _ _).alloc (Nat.le_refl _) _
      have hzV0 : V0.heap.size = w5.heap.size + 1 := by rw [← hV0]; simp
      have hwb : V0.heap[w5.heap.size]? = some (.cells #[.slice none 0 0, .slice none 0 0] 29 (0, 0)) := by rw [← hV0]; exact heap_alloc_new w5 _
      have hz5 := HB5.out.size
      have HBV0 := Lib.hid (HB5.out.trans (hb0'.mono hz5))
      have HS5 := Lib.hid (hs5.below hb0' (Nat.le_refl _))
      have HV0 := Lib.hid hV0
      have HWB := Lib.hid hwb
      have HE1 := Lib.hid e1
      have HE2 := Lib.hid e2
      have HWY := Lib.hid hw
      have HX0 := Lib.hid hx0
      have HVX := Lib.hid hvx
      have HN1 := Lib.hid hn1
      have HN2 := Lib.hid hn2
      have HNN2 := Lib.hid hnn2
      have HP2 := Lib.hid hp2
      have hn2b : n2 ≤ 256 := by omega
      have hn12 : n1 < n2 := by omega
      clear ho5 hs5 hV0 hb0' hwb e1 e2 hw hx0 hvx hn1 hn2 hnn2 hp2 hpl
      gi_wp2
      rw [HV0.out]
      gi_loopw [57] (fun i V' => ∃ k : Nat, k ≤ n1 ∧ i = .int .i64 (k : Int) ∧ ∃ A c, Hid (V'.heap[w5.heap.size]? = some (.cells #[.slice A k c, .slice none 0 0] 29 (0, 0))) ∧ Hid (V'.ownsRow V0.heap.size 41 1 (.slice A k c) k (ucellsN ((p.take k).map (fun q => (a.at q).need)))) ∧ Hid (Tch (fun j => j = w5.heap.size) V0 V')) (fun i _ => n1 - (intOf i).toNat)
      case atStart => exact ⟨0, by omega, rfl, none, 0, HWB, Lib.hid (World.ownsRow_nil _ _ _ _), Lib.hid (Tch.refl _ _)⟩
      case round =>
       obtain ⟨k, hk, rfl, A, c, HWBr, HRr, HTr⟩ := hrel
       have hzr := HTr.out.size
       have HBr := Lib.hid (HBV0.out.trans (HTr.out.below (B := X.heap.size) (by omega) (fun j hj e => by have e : j = w5.heap.size := e; omega)))
       by_cases hkl : k < n1
       ·have wk : IntKind.i64.wrap ((k : Int) + 1) = (k : Int) + 1 := by rw [IntKind.wrap_i64]; omega
        have hk0 : (0 : Int) ≤ (k : Int) := by omega
        have hk1 : (k : Int) < (n1 : Int) := by omega
        have hkp : k < p.length := by rw [HN1.out]; exact hkl
        obtain ⟨y, hy⟩ : ∃ y, p.getD k 0 = y := ⟨_, rfl⟩
        have hye : p[k] = y := by rw [← hy, List.getD_eq_getElem?_getD, List.getElem?_eq_getElem hkp]; rfl
        have hyE : y < (openE a).length := arc_ends HWY.out y (by rw [← hye]; exact List.getElem_mem hkp)
        have hyn : y < a.nodes.length := by rw [openE_len] at hyE; exact hyE
        have hyq : y < ql := by have := HQL.out; have := HNN.out; omega
        have hs5 := HS5.out.below (HTr.out.below (B := w5.heap.size) (by omega) (fun j hj e => by have e : j = w5.heap.size := e; omega)) (Nat.le_refl _)
        have hat5 : (icells (natI (p ++ [v])))[k]? = some (.int .i64 (y : Int)) := by
         rw [nat_at (show k < (p ++ [v]).length by rw [List.length_append]; omega), List.getD_eq_getElem?_getD, List.getElem?_append_left hkp, ← List.getD_eq_getElem?_getD, hy]
        obtain ⟨b5, o5, hA5, hb5l, hc5'⟩ := hs5.rd.at_ hat5
        subst hA5
        have hrd := HRD.out.below HBr.out (Nat.le_refl _)
        have hat6 : ((needsA a).map (fun (x : Nat) => (x : Int))).map (Value.int .u64) = ucellsN (needsA a) := by simp [ucellsN]
        have hgl := hrd.g.hl
        dsimp only at hgl
        rw [hat6] at hgl
        obtain ⟨yn, hyn'⟩ : ∃ z, (a.at y).need = z := ⟨_, rfl⟩
        have hnat := needs_at hyn
        obtain ⟨bl, ol, hAl, hbll, hcl⟩ := hgl.rd.at_ (show (ucellsN (needsA a))[y]? = some (.int .u64 (yn : Int)) by unfold ucellsN; rw [List.getElem?_map, hnat, hyn']; rfl)
        have hcl1 := hgl.cap
        have hcl2 := hgl.max
        unfold maxLen at hcl2
        subst hAl
        have hy0 : (0 : Int) ≤ (y : Int) := by omega
        have hy1 : (y : Int) < (ql : Int) := by omega
        have hpr : wr.heap[w3.heap.size]? = some _ := (HBr.out.block w3.heap.size (by omega)).trans HPX.out
        have s0 : wr.cell? ⟨w5.heap.size, 0, none⟩ = some (.slice A k c) := by rw [cell_of_row _ _ _ _ _ (0, 0) HWBr.out]; rfl
        have s1 : wr.cell? ⟨w3.heap.size, 2, none⟩ = some (.slice (some ⟨bl, ol, none⟩) ql rl) := by rw [cell_of_row _ _ _ _ _ (0, 0) hpr]; rfl
        have HNX1 : Hid ((p.take (k + 1)).map (fun q => (a.at q).need) = (p.take k).map (fun q => (a.at q).need) ++ [yn]) := Lib.hid (by rw [take_snoc p k hkp, List.map_append, hye, ← hyn']; rfl)
        clear hy hye hat5 hat6 hs5 hrd hgl hnat hyn' hpr
        gi_wp2
        refine wpIn_norm ?_
        refine wpIn_region_U (S := fun w' => w'.cell? ⟨w5.heap.size, 0, none⟩ = some (.slice A k c) ∧ w'.cell? ⟨w3.heap.size, 2, none⟩ = some (.slice (some ⟨bl, ol, none⟩) ql rl) ∧ w'.cell? ⟨bl, ol + y, none⟩ = some (.int .u64 (yn : Int))) 11 (by kernel_rfl) (by kernel_rfl) lets_none ⟨s0, s1, hcl⟩ (fun hS => ?_)
        refine tkU 0 [] rfl hS ?_
        refine tkU 1 [] rfl hS ?_
        refine tkU 2 [] rfl hS ?_
        refine tkU 3 [] rfl hS ?_
        refine tkU 4 [] rfl hS ?_
        refine tkU 5 [] rfl hS ?_
        refine tkU 6 [] rfl hS ?_
        refine tkU 7 [] rfl hS ?_
        refine wpAnyU_oneD (i := 8) rfl (by kernel_rfl) (fun K hK => ?_)
        go_simp
        have tb0 := heap_alloc_new wr (.cells #[.int .u64 (yn : Int)] 41)
        obtain ⟨wY, hwY⟩ : ∃ W, (wr.alloc (.cells #[.int .u64 (yn : Int)] 41)).drew = W := ⟨_, rfl⟩
        have hbY : Below wr.heap.size wr wY := by rw [← hwY]; exact Below.drew ((Below.refl _ _).alloc (Nat.le_refl _) _)
        have hzY : wY.heap.size = wr.heap.size + 1 := by rw [← hwY]; simp
        have tb : wY.heap[wr.heap.size]? = some (.cells #[.int .u64 (yn : Int)] 41 (0, 0)) := by rw [← hwY]; exact tb0
        rw [hwY]
        clear hwY tb0
        refine hK.out _ _ ⟨(hbY.cell (p := ⟨w5.heap.size, 0, none⟩) (show w5.heap.size < wr.heap.size by omega)).trans s0, (hbY.cell (p := ⟨w3.heap.size, 2, none⟩) (show w3.heap.size < wr.heap.size by omega)).trans s1, (hbY.cell (p := ⟨bl, ol + y, none⟩) (show bl < wr.heap.size by omega)).trans hcl⟩ (fun hS => ?_)
        clear hK
        try simp only [Act.put, List.setIfInBounds_toArray, List.set_cons_zero, List.set_cons_succ]
        refine wpAnyU_oneD (i := 9) rfl (by kernel_rfl) (fun K hK => ?_)
        refine step_push rfl (.tmp 62) (.tmp 69) 27 rfl V0.heap.size 41 1 8 sliceU64 _ _ _ (own_below HRr.out hbY) (by rfl) wr.heap.size #[.int .u64 (yn : Int)] (by rfl) tb rfl (by simp [Value.oneCell']) (by omega) (by omega) (by omega) ?_
        intro uZ wZ hownZ htZ hatZ _
        obtain ⟨gZ, cZ, rfl⟩ := ownsRow_succ hownZ
        have htZ2 : Tch (fun z9 => (Value.slice A k c).ownBlock = some z9) wr wZ := (below_tch hbY).then_ htZ
        have hrl := HRr.out.lt
        have hwbZ : wZ.heap[w5.heap.size]? = some (.cells #[.slice A k c, .slice none 0 0] 29 (0, 0)) := htZ2.blk HWBr.out (fun e => own_ne_blk HRr.out HWBr.out (by decide) e)
        have s0Z : wZ.cell? ⟨w5.heap.size, 0, none⟩ = some (.slice A k c) := by rw [cell_of_row _ _ _ _ _ (0, 0) hwbZ]; rfl
        have f0Z : wZ.frozen? ⟨w5.heap.size, 0, none⟩ = false := frozen_of_row wZ w5.heap.size 0 _ _ hwbZ
        have l0Z : w5.heap.size < wZ.heap.size := (Array.getElem?_eq_some_iff.1 hwbZ).1
        have s1Z := (htZ2.cell (p := ⟨w3.heap.size, 2, none⟩) (show w3.heap.size < wr.heap.size by omega) (fun e => by have h9 := (hrl _ e).1; have h9 : V0.heap.size ≤ w3.heap.size := h9; omega)).trans s1
        have hclZ := (htZ2.cell (p := ⟨bl, ol + y, none⟩) (show bl < wr.heap.size by omega) (fun e => by have h9 := (hrl _ e).1; have h9 : V0.heap.size ≤ bl := h9; omega)).trans hcl
        have HOZ := Lib.hid hownZ
        have HTZ := Lib.hid htZ2
        have HATZ := Lib.hid hatZ
        have HWBZ := Lib.hid hwbZ
        have HRL := Lib.hid hrl
        clear hownZ htZ htZ2 hatZ hwbZ hrl
        refine hK.out _ _ ⟨s0Z, s1Z, hclZ⟩ (fun hS => ?_)
        clear hK
        try simp only [Act.put, List.setIfInBounds_toArray, List.set_cons_zero, List.set_cons_succ]
        refine tkU 10 [] rfl hS ?_
        refine wpAnyU_lastD (i := 11) rfl (by kernel_rfl) (by kernel_rfl) (fun K hK => ?_)
        go_simp
        refine hK.out _ _ ?_
        clear hK
        try simp only [Act.put, List.setIfInBounds_toArray, List.set_cons_zero, List.set_cons_succ]
        refine wpAnyU_done (by kernel_rfl) ?_
        clear hS
        have hq8 : ucellsN ((p.take k).map (fun q => (a.at q).need)) ++ (#[Value.int .u64 (yn : Int)] : Array Value).toList = ucellsN ((p.take (k + 1)).map (fun q => (a.at q).need)) := by rw [HNX1.out]; simp [ucellsN]
        have hfin : Hid ((wZ.setCell ⟨w5.heap.size, 0, none⟩ (.slice (some ⟨gZ, 0, none⟩) (k + 1) cZ)).heap[w5.heap.size]? = some (.cells #[.slice (some ⟨gZ, 0, none⟩) (k + 1) cZ, .slice none 0 0] 29 (0, 0))) := Lib.hid (by rw [heap_setCell_same wZ w5.heap.size 0 _ _ _ HWBZ.out]; rfl)
        have hown9 : Hid ((wZ.setCell ⟨w5.heap.size, 0, none⟩ (.slice (some ⟨gZ, 0, none⟩) (k + 1) cZ)).ownsRow V0.heap.size 41 1 (.slice (some ⟨gZ, 0, none⟩) (k + 1) cZ) (k + 1) (ucellsN ((p.take (k + 1)).map (fun q => (a.at q).need)))) := Lib.hid (by
         have hoz := HOZ.out
         rw [hq8] at hoz
         exact own_tch hoz (tch_cell (w := wZ) w5.heap.size 0 _) (fun g hg e => by have e : g = w5.heap.size := e; exact own_ne_blk hoz HWBZ.out (by decide) (by rw [hg, e])))
        have htch9 : Hid (Tch (fun j => j = w5.heap.size) V0 (wZ.setCell ⟨w5.heap.size, 0, none⟩ (.slice (some ⟨gZ, 0, none⟩) (k + 1) cZ))) := Lib.hid ((HTr.out.trans HTZ.out (fun j hj e => absurd hj (by have := (HRL.out j e).1; omega))).then_ (tch_cell (w := wZ) w5.heap.size 0 _))
        clear s0Z f0Z l0Z s1Z hclZ hq8
        gi_wp2
        go_roundw
        case rel => exact ⟨k + 1, by omega, congrArg (Value.int .i64) (by omega), _, _, hfin, hown9, htch9⟩
        case measure => simp [intOf]; omega
       ·have hke : k = n1 := by omega
        subst hke
        obtain ⟨V2, rfl⟩ : ∃ V2, V2 = wr := ⟨_, rfl⟩
        have htk : p.take k = p := List.take_of_length_le (by rw [HN1.out]; exact Nat.le_refl _)
        have hrs := HRr.out
        rw [htk] at hrs
        have hs5 := HS5.out.below (HTr.out.below (B := w5.heap.size) (by omega) (fun j hj e => by have e : j = w5.heap.size := e; omega)) (Nat.le_refl _)
        have hat5 : (icells (natI (p ++ [v])))[k]? = some (.int .i64 (v : Int)) := by
         have hkp := HN1.out
         rw [← hkp]
         simp [icells, natI]
        obtain ⟨b5, o5, hA5, hb5l, hcv⟩ := hs5.rd.at_ hat5
        subst hA5
        have hpr : V2.heap[w3.heap.size]? = some (.cells #[.slice pi qi ri, .slice pe qe re, .slice pl ql rl, .slice pc qc rc, .int .u64 (allB s : Int)] 74 (0, 0)) := (HBr.out.block w3.heap.size (by omega)).trans HPX.out
        obtain ⟨s0, s1, s2, s3, s4⟩ := box5A hpr
        have hrd := HRD.out.below HBr.out (Nat.le_refl _)
        obtain ⟨A', c', hf, hsx⟩ := own_sl (own_below HOX.out HBr.out)
        cases hf
        have hHBW := HBWX.out.trans (HBr.out.mono HBWX.out.size)
        have hTV : TabAt 0 Lib.deBruijn64tab V2.drew := fun z hz => (hHBW.cell (p := ⟨_, z, none⟩) HG.out).trans (HTB.out z hz)
        have hq1 : q ≤ 256 := by
         have h1 := HXM.out
         have h2 := part_len (List.mem_filter.1 h1).1
         have := HNP.out
         have := openE_len a
         have := HNN.out
         omega
        have hro := (callsIn_wide (n := 5)).1 (round_in 5 (Nat.le_refl _) pi pe pl pc qi ri qe re ql rl qc rc (openI a) (openE a) (needsA a) (insA a) (allB s) x Au cu v mm V2.drew V2.heap.size ((hrd.below (Below.drew (Below.refl X.heap.size V2)) (Nat.le_refl _)).up (by have := HBr.out.size; omega)) (by rw [HNP.out]; exact hsx.drew) HXN.out HXL.out HVX.out (Nat.le_refl _) (by omega) HIL.out (by unfold allB; have : 2 ^ s ≤ 2 ^ 16 := Nat.pow_le_pow_right (by omega) (by have := HSS.out; omega); omega) KE (open_row hr) (open_nd HOK.out) (by have : qe * KE ≤ 256 * KE := Nat.mul_le_mul_right _ hqe; omega) (by omega) hTV (by have := HG.out; have := hHBW.size; show _ < V2.heap.size; omega) (ins_lt hinn) HCY.out HMET.out)
        rw [HNP.out] at hro
        have HRO := Lib.hid hro
        have HRS := Lib.hid hrs
        have HHBW := Lib.hid hHBW
        have wk2 : IntKind.i64.wrap ((n2 : Int) - 1) = (k : Int) := wn
        clear htk hrs hs5 hat5 hrd hsx hHBW hTV hro hpr
        gi_wp2
        refine wpIn_norm ?_
        refine wpIn_region_U (S := fun w' => w'.cell? ⟨w3.heap.size, 0, none⟩ = some (.slice pi qi ri) ∧ w'.cell? ⟨w3.heap.size, 1, none⟩ = some (.slice pe qe re) ∧ w'.cell? ⟨w3.heap.size, 2, none⟩ = some (.slice pl ql rl) ∧ w'.cell? ⟨w3.heap.size, 3, none⟩ = some (.slice pc qc rc) ∧ w'.cell? ⟨w3.heap.size, 4, none⟩ = some (.int .u64 (allB s : Int)) ∧ w'.cell? ⟨b5, o5 + k, none⟩ = some (.int .i64 (v : Int))) 8 (by kernel_rfl) (by kernel_rfl) lets_none ⟨s0, s1, s2, s3, s4, hcv⟩ (fun hS => ?_)
        refine tkU 0 [] rfl hS ?_
        refine tkU 1 [] rfl hS ?_
        refine tkU 2 [7, 6] rfl hS ?_
        refine tkU 3 [7, 6, 5, 4] rfl hS ?_
        refine tkU 4 [7, 6, 5] rfl hS ?_
        refine tkU 5 [7, 6] rfl hS ?_
        refine tkU 6 [7] rfl hS ?_
        refine tkU 7 [] rfl hS ?_
        refine tkW 10 rfl hS ?_
        refine wpAnyU_lastD (i := 8) rfl (by kernel_rfl) (by kernel_rfl) (fun K hK => ?_)
        go_simp
        refine HRO.out.mono ?_
        rintro e w7 ⟨R, Ar, cr, rfl, hsr, hbr', hRne, hRlen, hRw, hRm⟩
        have hbr : Below V2.heap.size V2 w7 := below_undrew hbr'
        obtain ⟨nr, hnr⟩ : ∃ z, R.length = z := ⟨_, rfl⟩
        have HNR := Lib.hid hnr
        rw [hnr] at hsr hRlen ⊢
        have hz7 := hbr.size
        obtain ⟨A8, c8, hf8, hs8⟩ := own_sl hsr
        cases hf8
        have HSR := Lib.hid hsr
        have HBR7 := Lib.hid hbr
        have HB7 := Lib.hid (HBr.out.trans (hbr.mono HBr.out.size))
        have HRNE := Lib.hid hRne
        have HRW := Lib.hid hRw
        have HRM := Lib.hid hRm
        have hbl := all_bits (show s ≤ 16 by have := HSS.out; omega)
        have hRl2 : nr ≤ 1 + 17 * (a.nodes.length - 1) := Nat.le_trans hRlen (Nat.add_le_add_left (Nat.le_trans (Nat.mul_le_mul_right _ (show (bitsL (allB s)).length + 1 ≤ 17 by omega)) (Nat.mul_le_mul_left _ (by rw [openE_len]; exact Nat.le_refl _))) _)
        have hRl3 : nr ≤ 5000 := by have := HNN.out; omega
        clear hRlen hbl
        have HWB7 := Lib.hid ((hbr.block w5.heap.size (by omega)).trans HWBr.out)
        have HRS7 := Lib.hid (own_below HRS.out hbr)
        have hcr := hs8.cap
        have hmr := hs8.max
        unfold maxLen at hmr
        clear hs8 hsr hbr hbr' hRne hRw hRm hnr
        dsimp only
        refine hK.out _ _ ?_
        clear hK
        try simp only [Act.put, List.setIfInBounds_toArray, List.set_cons_zero, List.set_cons_succ]
        refine tkB 9 rfl ?_
        refine wpAnyU_done (by kernel_rfl) ?_
        clear hS s0 s1 s2 s3 s4 hcv
        gi_wp2
        gi_loopw [83] (fun i V' => ∃ j : Nat, j ≤ nr ∧ i = .int .i64 (j : Int) ∧ ∃ A2 c2, Hid (V'.heap[w5.heap.size]? = some (.cells #[.slice A k c, .slice A2 j c2] 29 (0, 0))) ∧ Hid (V'.ownsRow w7.heap.size 41 1 (.slice A2 j c2) j (ucellsN ((R.take j).map (fun q => (a.at q).need)))) ∧ Hid (Tch (fun j => j = w5.heap.size) w7 V')) (fun i _ => nr - (intOf i).toNat)
        case atStart => exact ⟨0, by omega, rfl, none, 0, HWB7, Lib.hid (World.ownsRow_nil _ _ _ _), Lib.hid (Tch.refl _ _)⟩
        case round =>
         obtain ⟨j, hj, rfl, A2, c2, HWBr2, HRr2, HTr2⟩ := hrel
         have hzr2 := HTr2.out.size
         have HBr2 := Lib.hid (HB7.out.trans (HTr2.out.below (B := X.heap.size) (by omega) (fun j hj e => by have e : j = w5.heap.size := e; omega)))
         by_cases hjl : j < nr
         ·have wj : IntKind.i64.wrap ((j : Int) + 1) = (j : Int) + 1 := by rw [IntKind.wrap_i64]; omega
          have hj0 : (0 : Int) ≤ (j : Int) := by omega
          have hj1 : (j : Int) < (nr : Int) := by omega
          have hjp : j < R.length := by rw [HNR.out]; exact hjl
          obtain ⟨y, hy⟩ : ∃ y, R.getD j 0 = y := ⟨_, rfl⟩
          have hye : R[j] = y := by rw [← hy, List.getD_eq_getElem?_getD, List.getElem?_eq_getElem hjp]; rfl
          have hyE : y < (openE a).length := by
           have := arc_ends HRW.out y (by rw [← hye]; exact List.getElem_mem hjp)
           rwa [innerE_len] at this
          have hyn : y < a.nodes.length := by rw [openE_len] at hyE; exact hyE
          have hyq : y < ql := by have := HQL.out; have := HNN.out; omega
          obtain ⟨A8, c8, hf8, hs7⟩ := own_sl (own_tch HSR.out HTr2.out (fun g hg e => by have e : g = w5.heap.size := e; exact own_ne_blk HSR.out HWB7.out (by decide) (by rw [hg, e])))
          cases hf8
          obtain ⟨b7, o7, hA7, hb7l, hc7⟩ := hs7.rd.at_ (nat_at hjp)
          rw [hy] at hc7
          subst hA7
          have hrd := HRD.out.below HBr2.out (Nat.le_refl _)
          have hat6 : ((needsA a).map (fun (x : Nat) => (x : Int))).map (Value.int .u64) = ucellsN (needsA a) := by simp [ucellsN]
          have hgl := hrd.g.hl
          dsimp only at hgl
          rw [hat6] at hgl
          obtain ⟨yn, hyn'⟩ : ∃ z, (a.at y).need = z := ⟨_, rfl⟩
          have hnat := needs_at hyn
          obtain ⟨bl, ol, hAl, hbll, hcl⟩ := hgl.rd.at_ (show (ucellsN (needsA a))[y]? = some (.int .u64 (yn : Int)) by unfold ucellsN; rw [List.getElem?_map, hnat, hyn']; rfl)
          have hcl1 := hgl.cap
          have hcl2 := hgl.max
          unfold maxLen at hcl2
          subst hAl
          have hy0 : (0 : Int) ≤ (y : Int) := by omega
          have hy1 : (y : Int) < (ql : Int) := by omega
          have hpr : wr.heap[w3.heap.size]? = some _ := (HBr2.out.block w3.heap.size (by omega)).trans HPX.out
          have s0 : wr.cell? ⟨w5.heap.size, 1, none⟩ = some (.slice A2 j c2) := by rw [cell_of_row _ _ _ _ _ (0, 0) HWBr2.out]; rfl
          have s1 : wr.cell? ⟨w3.heap.size, 2, none⟩ = some (.slice (some ⟨bl, ol, none⟩) ql rl) := by rw [cell_of_row _ _ _ _ _ (0, 0) hpr]; rfl
          have HNX1 : Hid ((R.take (j + 1)).map (fun q => (a.at q).need) = (R.take j).map (fun q => (a.at q).need) ++ [yn]) := Lib.hid (by rw [take_snoc R j hjp, List.map_append, hye, ← hyn']; rfl)
          clear hy hye hat6 hs7 hrd hgl hnat hyn' hpr
          gi_wp2
          refine wpIn_norm ?_
          refine wpIn_region_U (S := fun w' => w'.cell? ⟨w5.heap.size, 1, none⟩ = some (.slice A2 j c2) ∧ w'.cell? ⟨w3.heap.size, 2, none⟩ = some (.slice (some ⟨bl, ol, none⟩) ql rl) ∧ w'.cell? ⟨bl, ol + y, none⟩ = some (.int .u64 (yn : Int))) 11 (by kernel_rfl) (by kernel_rfl) lets_none ⟨s0, s1, hcl⟩ (fun hS => ?_)
          refine tkU 0 [] rfl hS ?_
          refine tkU 1 [] rfl hS ?_
          refine tkU 2 [] rfl hS ?_
          refine tkU 3 [] rfl hS ?_
          refine tkU 4 [] rfl hS ?_
          refine tkU 5 [] rfl hS ?_
          refine tkU 6 [] rfl hS ?_
          refine tkU 7 [] rfl hS ?_
          refine wpAnyU_oneD (i := 8) rfl (by kernel_rfl) (fun K hK => ?_)
          go_simp
          have tb0 := heap_alloc_new wr (.cells #[.int .u64 (yn : Int)] 41)
          obtain ⟨wY, hwY⟩ : ∃ W, (wr.alloc (.cells #[.int .u64 (yn : Int)] 41)).drew = W := ⟨_, rfl⟩
          have hbY : Below wr.heap.size wr wY := by rw [← hwY]; exact Below.drew ((Below.refl _ _).alloc (Nat.le_refl _) _)
          have hzY : wY.heap.size = wr.heap.size + 1 := by rw [← hwY]; simp
          have tb : wY.heap[wr.heap.size]? = some (.cells #[.int .u64 (yn : Int)] 41 (0, 0)) := by rw [← hwY]; exact tb0
          rw [hwY]
          clear hwY tb0
          refine hK.out _ _ ⟨(hbY.cell (p := ⟨w5.heap.size, 1, none⟩) (show w5.heap.size < wr.heap.size by omega)).trans s0, (hbY.cell (p := ⟨w3.heap.size, 2, none⟩) (show w3.heap.size < wr.heap.size by omega)).trans s1, (hbY.cell (p := ⟨bl, ol + y, none⟩) (show bl < wr.heap.size by omega)).trans hcl⟩ (fun hS => ?_)
          clear hK
          try simp only [Act.put, List.setIfInBounds_toArray, List.set_cons_zero, List.set_cons_succ]
          refine wpAnyU_oneD (i := 9) rfl (by kernel_rfl) (fun K hK => ?_)
          refine step_push rfl (.tmp 88) (.tmp 95) 27 rfl w7.heap.size 41 1 8 sliceU64 _ _ _ (own_below HRr2.out hbY) (by rfl) wr.heap.size #[.int .u64 (yn : Int)] (by rfl) tb rfl (by simp [Value.oneCell']) (by omega) (by omega) (by omega) ?_
          intro uZ wZ hownZ htZ hatZ _
          obtain ⟨gZ, cZ, rfl⟩ := ownsRow_succ hownZ
          have htZ2 : Tch (fun z9 => (Value.slice A2 j c2).ownBlock = some z9) wr wZ := (below_tch hbY).then_ htZ
          have hrl := HRr2.out.lt
          have hwbZ : wZ.heap[w5.heap.size]? = some (.cells #[.slice A k c, .slice A2 j c2] 29 (0, 0)) := htZ2.blk HWBr2.out (fun e => own_ne_blk HRr2.out HWBr2.out (by decide) e)
          have s0Z : wZ.cell? ⟨w5.heap.size, 1, none⟩ = some (.slice A2 j c2) := by rw [cell_of_row _ _ _ _ _ (0, 0) hwbZ]; rfl
          have f0Z : wZ.frozen? ⟨w5.heap.size, 1, none⟩ = false := frozen_of_row wZ w5.heap.size 1 _ _ hwbZ
          have l0Z : w5.heap.size < wZ.heap.size := (Array.getElem?_eq_some_iff.1 hwbZ).1
          have s1Z := (htZ2.cell (p := ⟨w3.heap.size, 2, none⟩) (show w3.heap.size < wr.heap.size by omega) (fun e => by have h9 := (hrl _ e).1; have h9 : w7.heap.size ≤ w3.heap.size := h9; omega)).trans s1
          have hclZ := (htZ2.cell (p := ⟨bl, ol + y, none⟩) (show bl < wr.heap.size by omega) (fun e => by have h9 := (hrl _ e).1; have h9 : w7.heap.size ≤ bl := h9; omega)).trans hcl
          have HOZ := Lib.hid hownZ
          have HTZ := Lib.hid htZ2
          have HATZ := Lib.hid hatZ
          have HWBZ := Lib.hid hwbZ
          have HRL := Lib.hid hrl
          clear hownZ htZ htZ2 hatZ hwbZ hrl
          refine hK.out _ _ ⟨s0Z, s1Z, hclZ⟩ (fun hS => ?_)
          clear hK
          try simp only [Act.put, List.setIfInBounds_toArray, List.set_cons_zero, List.set_cons_succ]
          refine tkU 10 [] rfl hS ?_
          refine wpAnyU_lastD (i := 11) rfl (by kernel_rfl) (by kernel_rfl) (fun K hK => ?_)
          go_simp
          refine hK.out _ _ ?_
          clear hK
          try simp only [Act.put, List.setIfInBounds_toArray, List.set_cons_zero, List.set_cons_succ]
          refine wpAnyU_done (by kernel_rfl) ?_
          clear hS
          have hq8 : ucellsN ((R.take j).map (fun q => (a.at q).need)) ++ (#[Value.int .u64 (yn : Int)] : Array Value).toList = ucellsN ((R.take (j + 1)).map (fun q => (a.at q).need)) := by rw [HNX1.out]; simp [ucellsN]
          have hfin : Hid ((wZ.setCell ⟨w5.heap.size, 1, none⟩ (.slice (some ⟨gZ, 0, none⟩) (j + 1) cZ)).heap[w5.heap.size]? = some (.cells #[.slice A k c, .slice (some ⟨gZ, 0, none⟩) (j + 1) cZ] 29 (0, 0))) := Lib.hid (by rw [heap_setCell_same wZ w5.heap.size 1 _ _ _ HWBZ.out]; rfl)
          have hown9 : Hid ((wZ.setCell ⟨w5.heap.size, 1, none⟩ (.slice (some ⟨gZ, 0, none⟩) (j + 1) cZ)).ownsRow w7.heap.size 41 1 (.slice (some ⟨gZ, 0, none⟩) (j + 1) cZ) (j + 1) (ucellsN ((R.take (j + 1)).map (fun q => (a.at q).need)))) := Lib.hid (by
           have hoz := HOZ.out
           rw [hq8] at hoz
           exact own_tch hoz (tch_cell (w := wZ) w5.heap.size 1 _) (fun g hg e => by have e : g = w5.heap.size := e; exact own_ne_blk hoz HWBZ.out (by decide) (by rw [hg, e])))
          have htch9 : Hid (Tch (fun z => z = w5.heap.size) w7 (wZ.setCell ⟨w5.heap.size, 1, none⟩ (.slice (some ⟨gZ, 0, none⟩) (j + 1) cZ))) := Lib.hid ((HTr2.out.trans HTZ.out (fun j hj e => absurd hj (by have := (HRL.out j e).1; omega))).then_ (tch_cell (w := wZ) w5.heap.size 1 _))
          clear s0Z f0Z l0Z s1Z hclZ hq8
          gi_wp2
          go_roundw
          case rel => exact ⟨j + 1, by omega, congrArg (Value.int .i64) (by omega), _, _, hfin, hown9, htch9⟩
          case measure => simp [intOf]; omega
         ·have hje : j = nr := by omega
          subst hje
          obtain ⟨V3, rfl⟩ : ∃ V3, V3 = wr := ⟨_, rfl⟩
          have htk : R.take j = R := List.take_of_length_le (by rw [HNR.out]; exact Nat.le_refl _)
          have hrl := HRr2.out
          rw [htk] at hrl
          have hwx : w.heap.size + 1 + 1 < X.heap.size := by omega
          have hy3 := (HBr2.out.block (w.heap.size + 1) (by omega)).trans HY.out
          have hu3 := (HBr2.out.block (w.heap.size + 1 + 1) (by omega)).trans HU.out
          have hrs3 := own_tch HRS7.out HTr2.out (fun g hg e => by have e : g = w5.heap.size := e; exact own_ne_blk HRS7.out HWB7.out (by decide) (by rw [hg, e]))
          have s0 : V3.cell? ⟨w5.heap.size, 0, none⟩ = some (.slice A k c) := by rw [cell_of_row _ _ _ _ _ (0, 0) HWBr2.out]; rfl
          have s1 : V3.cell? ⟨w5.heap.size, 1, none⟩ = some (.slice A2 j c2) := by rw [cell_of_row _ _ _ _ _ (0, 0) HWBr2.out]; rfl
          have y0 : V3.cell? ⟨w.heap.size + 1, 0, none⟩ = some (.slice none 0 0) := by rw [cell_of_row _ _ _ _ _ (0, 0) hy3]; rfl
          have y1 : V3.cell? ⟨w.heap.size + 1, 1, none⟩ = some (.slice none 0 0) := by rw [cell_of_row _ _ _ _ _ (0, 0) hy3]; rfl
          have u0 : V3.cell? ⟨w.heap.size + 1 + 1, 0, none⟩ = some (.bool false) := by rw [cell_of_row _ _ _ _ _ (0, 0) hu3]; rfl
          have f0 : V3.frozen? ⟨w.heap.size + 1, 0, none⟩ = false := frozen_of_row V3 _ 0 _ _ hy3
          have f1 : V3.frozen? ⟨w.heap.size + 1, 1, none⟩ = false := frozen_of_row V3 _ 1 _ _ hy3
          have f2 : V3.frozen? ⟨w.heap.size + 1 + 1, 0, none⟩ = false := frozen_of_row V3 _ 0 _ _ hu3
          have yl : w.heap.size + 1 < V3.heap.size := (Array.getElem?_eq_some_iff.1 hy3).1
          have ul : w.heap.size + 1 + 1 < V3.heap.size := (Array.getElem?_eq_some_iff.1 hu3).1
          have HY3 := Lib.hid hy3
          have HU3 := Lib.hid hu3
          have HRL3 := Lib.hid hrl
          have HRS3 := Lib.hid hrs3
          clear htk hrl hy3 hu3 hrs3
          gi_wp2
          obtain ⟨g1', g2', g3'⟩ := set3W (a := .slice A k c) (b := .slice A2 j c2) (c := .bool true) HY3.out rfl HU3.out rfl (by omega)
          obtain ⟨Y, hY⟩ : ∃ Z, ((V3.setCell ⟨w.heap.size + 1, 0, none⟩ (.slice A k c)).setCell ⟨w.heap.size + 1, 1, none⟩ (.slice A2 j c2)).setCell ⟨w.heap.size + 1 + 1, 0, none⟩ (.bool true) = Z := ⟨_, rfl⟩
          rw [hY] at g1' g2' g3' ⊢
          clear hY y0 y1 u0 f0 f1 f2
          have hV0s : w5.heap.size < V0.heap.size := by omega
          have ho1 := own_tch HRS3.out g3' (fun g hg e => by have h9 := (HRS3.out.lt g hg).1; have e : g = w.heap.size + 1 ∨ g = w.heap.size + 1 + 1 := e; omega)
          have ho2 := own_tch HRL3.out g3' (fun g hg e => by have h9 := (HRL3.out.lt g hg).1; have e : g = w.heap.size + 1 ∨ g = w.heap.size + 1 + 1 := e; omega)
          have htc : Tch N1 X Y := (below_tch HBr2.out).then_ (g3'.wide (fun z e => by rcases e with e | e <;> rw [e] <;> assumption))
          have hwi : WitIs a (p.map (fun q => (a.at q).need)) (R.map (fun q => (a.at q).need)) := by
           refine ⟨HCK.out, wit_some HOK.out (by have := HSS.out; omega) HXM.out HP2.out, ?_, ?_, ?_, ?_, ?_, ?_⟩
           ·rw [List.length_map]; exact List.length_pos_iff.2 HRNE.out
           ·rw [List.length_map, HN1.out]; exact hn1a
           ·rw [List.length_map, HNR.out]; exact hRl2
           ·have hac := wit_word HOK.out (s := s) (by have := HSS.out; omega) (by have := HSS.out; omega) HWY.out HX0.out HRW.out HRNE.out HRM.out
            rw [List.map_append] at hac
            rw [List.length_map]
            exact hac
           ·intro z hz
            obtain ⟨q, -, rfl⟩ := List.mem_map.1 hz
            exact at_need hnd q
           ·intro z hz
            obtain ⟨q, -, rfl⟩ := List.mem_map.1 hz
            exact at_need hnd q
          refine ⟨N1, Rnd.of_tch htc HNX.out, rfl, A, k, c, A2, j, c2, _, _, g1', g2', ?_, ?_, hwi, ?_⟩
          ·rw [ucellsN_nat]; exact own_base ho1 (by omega)
          ·rw [ucellsN_nat]; exact own_base ho2 (by omega)
          ·exact (HBWX.out.trans (HBr2.out.mono HBWX.out.size)).trans (g3'.below (by omega) (fun z hz e => by have e : z = w.heap.size + 1 ∨ z = w.heap.size + 1 + 1 := e; omega))
  case done =>
   rintro D N1 X hD hDN ⟨⟨hno, hy, hu⟩, hrnd, hN1, hN2⟩ hDv
   dsimp only at hno hrnd hN1 hN2
   have hzX := hrnd.tch.size
   have hDl : D < X.heap.size := (Array.getElem?_eq_some_iff.1 hDv).1
   have HNO := Lib.hid (wit_none HOK.out (s := s) (by have := HSS.out; omega) hno)
   have HBX := Lib.hid (HWW.out.trans (rnd_below hrnd (show w.heap.size ≤ W4.heap.size by omega) hM2))
   have y0 : X.cell? ⟨w.heap.size + 1, 0, none⟩ = some (.slice none 0 0) := by rw [cell_of_row _ _ _ _ _ (0, 0) hy]; rfl
   have y1 : X.cell? ⟨w.heap.size + 1, 1, none⟩ = some (.slice none 0 0) := by rw [cell_of_row _ _ _ _ _ (0, 0) hy]; rfl
   have u0 : X.cell? ⟨w.heap.size + 1 + 1, 0, none⟩ = some (.bool false) := by rw [cell_of_row _ _ _ _ _ (0, 0) hu]; rfl
   have f0 : X.frozen? ⟨w.heap.size + 1, 0, none⟩ = false := frozen_of_row X _ 0 _ _ hy
   have f1 : X.frozen? ⟨w.heap.size + 1, 1, none⟩ = false := frozen_of_row X _ 1 _ _ hy
   have f2 : X.frozen? ⟨w.heap.size + 1 + 1, 0, none⟩ = false := frozen_of_row X _ 0 _ _ hu
   have yl : w.heap.size + 1 < X.heap.size := (Array.getElem?_eq_some_iff.1 hy).1
   have ul : w.heap.size + 1 + 1 < X.heap.size := (Array.getElem?_eq_some_iff.1 hu).1
   have HY := Lib.hid hy
   have HU := Lib.hid hu
   have HDV := Lib.hid hDv
   clear hno hy hu hrnd hDv
   go_wp2_with fail
   obtain ⟨g1', g2', g3'⟩ := set3W (a := .slice none 0 0) (b := .slice none 0 0) (c := .bool false) HY.out rfl HU.out rfl (by omega)
   obtain ⟨Y, hY⟩ : ∃ Z, ((X.setCell ⟨w.heap.size + 1, 0, none⟩ (.slice none 0 0)).setCell ⟨w.heap.size + 1, 1, none⟩ (.slice none 0 0)).setCell ⟨w.heap.size + 1 + 1, 0, none⟩ (.bool false) = Z := ⟨_, rfl⟩
   rw [hY] at g1' g2' g3' ⊢
   clear hY y0 y1 u0 f0 f1 f2
   have hDY : Y.heap[D]? = some (.deferred (some [])) := (g3'.block D hDl (fun e => by have e : D = w.heap.size + 1 ∨ D = w.heap.size + 1 + 1 := e; omega)).trans HDV.out
   have hbY : Below w.heap.size w Y := HBX.out.trans (g3'.below (show w.heap.size ≤ X.heap.size by omega) (fun y hy e => by have e : y = w.heap.size + 1 ∨ y = w.heap.size + 1 + 1 := e; omega))
   obtain ⟨Z, hZ⟩ : ∃ Z, Y.putObj D (.deferred none) = Z := ⟨_, rfl⟩
   have hbZ : Below w.heap.size w Z := by rw [← hZ]; exact hbY.trans (belowK_b (w := w) (Nat.le_refl _) Y D _ _ (by omega) hDY rfl rfl)
   have hzr : Z.heap[w.heap.size + 1]? = some (.cells #[.slice none 0 0, .slice none 0 0] 29 (0, 0)) := by rw [← hZ]; exact (World.putObj_heap_other (by omega)).trans g1'
   have hzk : Z.heap[w.heap.size + 1 + 1]? = some (.cells #[.bool false] 4 (0, 0)) := by rw [← hZ]; exact (World.putObj_heap_other (by omega)).trans g2'
   have g0 : Z.cell? ⟨w.heap.size + 1, 0, none⟩ = some (.slice none 0 0) := by rw [cell_of_row _ _ _ _ _ (0, 0) hzr]; rfl
   have g1 : Z.cell? ⟨w.heap.size + 1, 1, none⟩ = some (.slice none 0 0) := by rw [cell_of_row _ _ _ _ _ (0, 0) hzr]; rfl
   have g2 : Z.cell? ⟨w.heap.size + 1 + 1, 0, none⟩ = some (.bool false) := by rw [cell_of_row _ _ _ _ _ (0, 0) hzk]; rfl
   refine ⟨by simp, .inl ⟨_, _, rfl, run_takeDeferred hDY, ?_⟩⟩
   rw [hZ]
   have hfin : WitPost w a (.returned (.tuple #[.agg #[.slice none 0 0, .slice none 0 0], .bool false])) Z := by
    refine ⟨none, 0, 0, none, 0, 0, [], [], false, rfl, ⟨Sl.none_ _ _ _, Sl.none_ _ _ _, rfl, rfl⟩, hbZ, (fun h => by cases h), fun _ => ⟨?_, rfl, rfl⟩⟩
    unfold trimF
    rw [if_pos HCK.out]
    exact HNO.out
   refine ⟨_, ?_, hfin⟩
   simp [results, Tryd.results31, go_sem, g0, g1, g2]
  case stop =>
   rintro D c pre N1 X hD hDN hpre ⟨rfl, A1, n1, c1, A2, n2, c2, st, lo, hy, hu, ho1, ho2, hwi, hbX⟩ hDv
   gi_wp2
   refine ⟨by simp, .inl ⟨_, _, rfl, run_takeDeferred hDv, ?_⟩⟩
   have hD1 : w.heap.size + 3 ≤ D := by omega
   have hoz1 := ownsRow_putObj ho1 (.deferred none) hDv rfl
   have hoz2 := ownsRow_putObj ho2 (.deferred none) hDv rfl
   obtain ⟨Z, hZ⟩ : ∃ Z, X.putObj D (.deferred none) = Z := ⟨_, rfl⟩
   have hbZ : Below w.heap.size w Z := by rw [← hZ]; exact hbX.trans (belowK_b (w := w) (Nat.le_refl _) X D _ _ (by omega) hDv rfl rfl)
   have hzr : Z.heap[w.heap.size + 1]? = some (.cells #[.slice A1 n1 c1, .slice A2 n2 c2] 29 (0, 0)) := by rw [← hZ]; exact (World.putObj_heap_other (by omega)).trans hy
   have hzk : Z.heap[w.heap.size + 1 + 1]? = some (.cells #[.bool true] 4 (0, 0)) := by rw [← hZ]; exact (World.putObj_heap_other (by omega)).trans hu
   have g0 : Z.cell? ⟨w.heap.size + 1, 0, none⟩ = some (.slice A1 n1 c1) := by rw [cell_of_row _ _ _ _ _ (0, 0) hzr]; rfl
   have g1 : Z.cell? ⟨w.heap.size + 1, 1, none⟩ = some (.slice A2 n2 c2) := by rw [cell_of_row _ _ _ _ _ (0, 0) hzr]; rfl
   have g2 : Z.cell? ⟨w.heap.size + 1 + 1, 0, none⟩ = some (.bool true) := by rw [cell_of_row _ _ _ _ _ (0, 0) hzk]; rfl
   rw [hZ] at hoz1 hoz2 ⊢
   obtain ⟨A8, c8, e8, hs8⟩ := own_sl hoz1
   cases e8
   obtain ⟨A9, c9, e9, hs9⟩ := own_sl hoz2
   cases e9
   have hl1 : n1 = (natI st).length := by have := hs8.len; rw [ucells_len] at this; omega
   have hl2 : n2 = (natI lo).length := by have := hs9.len; rw [ucells_len] at this; omega
   have hfin : WitPost w a (.returned (.tuple #[.agg #[.slice A1 n1 c1, .slice A2 n2 c2], .bool true])) Z :=
    ⟨A1, n1, c1, A2, n2, c2, st, lo, true, rfl, ⟨hs8, hs9, hl1, hl2⟩, hbZ, fun _ => hwi, fun h => by cases h⟩
   refine ⟨_, ?_, hfin⟩
   simp [results, Tryd.results31, go_sem, g0, g1, g2]
 ·have hne : ((chkA a) == 0) = false := by rw [beq_eq_false_iff_ne]; exact hck
  have hne2 : ((chkA a) != 0) = true := by rw [bne_iff_ne]; exact hck
  have hne3 : decide (chkA a = 0) = false := decide_eq_false hck
  have HTF : Hid ((trimF a).init = []) := Lib.hid (by unfold trimF; rw [if_neg hck]; rfl)
  have y0 : w1.cell? ⟨w.heap.size + 1, 0, none⟩ = some (.slice none 0 0) := by rw [cell_of_row _ _ _ _ _ (0, 0) hy1]; rfl
  have y1 : w1.cell? ⟨w.heap.size + 1, 1, none⟩ = some (.slice none 0 0) := by rw [cell_of_row _ _ _ _ _ (0, 0) hy1]; rfl
  have u0 : w1.cell? ⟨w.heap.size + 1 + 1, 0, none⟩ = some (.bool false) := by rw [cell_of_row _ _ _ _ _ (0, 0) hu1]; rfl
  have f0 : w1.frozen? ⟨w.heap.size + 1, 0, none⟩ = false := frozen_of_row w1 _ 0 _ _ hy1
  have f1 : w1.frozen? ⟨w.heap.size + 1, 1, none⟩ = false := frozen_of_row w1 _ 1 _ _ hy1
  have f2 : w1.frozen? ⟨w.heap.size + 1 + 1, 0, none⟩ = false := frozen_of_row w1 _ 0 _ _ hu1
  have yl : w.heap.size + 1 < w1.heap.size := (Array.getElem?_eq_some_iff.1 hy1).1
  have ul : w.heap.size + 1 + 1 < w1.heap.size := (Array.getElem?_eq_some_iff.1 hu1).1
  have HY := Lib.hid hy1
  have HU := Lib.hid hu1
  clear hck hx1 hy1 hu1
  go_wp2_with fail
  obtain ⟨g1', g2', g3'⟩ := set3W (a := .slice none 0 0) (b := .slice none 0 0) (c := .bool false) HY.out rfl HU.out rfl (by omega)
  obtain ⟨Y, hY⟩ : ∃ Z, ((w1.setCell ⟨w.heap.size + 1, 0, none⟩ (.slice none 0 0)).setCell ⟨w.heap.size + 1, 1, none⟩ (.slice none 0 0)).setCell ⟨w.heap.size + 1 + 1, 0, none⟩ (.bool false) = Z := ⟨_, rfl⟩
  rw [hY] at g1' g2' g3' ⊢
  have hbY : Below w.heap.size w Y := HBB.out.trans (g3'.below (show w.heap.size ≤ w1.heap.size by omega) (fun y hy e => by have e : y = w.heap.size + 1 ∨ y = w.heap.size + 1 + 1 := e; omega))
  have g0 : Y.cell? ⟨w.heap.size + 1, 0, none⟩ = some (.slice none 0 0) := by rw [cell_of_row _ _ _ _ _ (0, 0) g1']; rfl
  have g1 : Y.cell? ⟨w.heap.size + 1, 1, none⟩ = some (.slice none 0 0) := by rw [cell_of_row _ _ _ _ _ (0, 0) g1']; rfl
  have g2 : Y.cell? ⟨w.heap.size + 1 + 1, 0, none⟩ = some (.bool false) := by rw [cell_of_row _ _ _ _ _ (0, 0) g2']; rfl
  have hfin : WitPost w a (.returned (.tuple #[.agg #[.slice none 0 0, .slice none 0 0], .bool false])) Y :=
   ⟨none, 0, 0, none, 0, 0, [], [], false, rfl, ⟨Sl.none_ _ _ _, Sl.none_ _ _ _, rfl, rfl⟩, hbY, (fun h => by cases h), fun _ => ⟨HTF.out, rfl, rfl⟩⟩
  refine ⟨_, ?_, hfin⟩
  simp [results, Tryd.results31, go_sem, g0, g1, g2]
end Go.Proofs.YtiebpncpdbnelaaDoor
