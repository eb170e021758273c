/- The walks of layer 30 (auto): Trim. -/
import Derived.Test.YtiebpncpdbnelaaGreatDoorZbk
set_option maxHeartbeats 8000000
set_option maxRecDepth 100000
namespace Go.Proofs.YtiebpncpdbnelaaGreatDoor
open Go.RowKit Go.Shelf
attribute [local go_sem] Oper.semAt_some
def markK (u : List Bool) (n k : Nat) : List Bool := (List.range n).map (fun i => decide (i < k) && u.getD i false)
theorem markK_at {u : List Bool} {n k i : Nat} (hi : i < n) : (markK u n k).getD i false = (decide (i < k) && u.getD i false) := by simp [markK, List.getD, hi]
theorem markK_len (u : List Bool) (n k : Nat) : (markK u n k).length = n := by simp [markK]
theorem markK_zero (u : List Bool) (n : Nat) : markK u n 0 = List.replicate n false := by
 refine List.ext_getElem (by simp [markK]) (fun i h1 h2 => ?_)
 simp [markK]
theorem markK_no {u : List Bool} {n k : Nat} (h : u.getD k false = false) : markK u n (k + 1) = markK u n k := by
 unfold markK
 refine List.map_congr_left (fun i _ => ?_)
 by_cases e : i = k
 ·subst e; rw [h]; simp
 ·have : (i < k + 1) = (i < k) := by simp only [eq_iff_iff]; omega
  simp only [this]
theorem markK_yes {u : List Bool} {n k : Nat} (h : u.getD k false = true) : (markK u n k).set k true = markK u n (k + 1) := by
 refine List.ext_getElem (by simp [markK]) (fun i h1 h2 => ?_)
 rw [List.getElem_set]
 split
 ·rename_i e; subst e
  simp only [markK, List.getElem_map, List.getElem_range, h]
  simp
 ·rename_i e
  simp only [markK, List.getElem_map, List.getElem_range]
  have : (i < k + 1) = (i < k) := by simp only [eq_iff_iff]; omega
  simp only [this]
theorem set3A {w : World} {g T : Nat} {a b c : Value} {cs : Array Value} (h : w.1[g]? = some (.cells cs T (0, 0))) (hc : cs.size = 3) :
  (((w.setCell ⟨g, 0, none⟩ a).setCell ⟨g, 1, none⟩ b).setCell ⟨g, 2, none⟩ c).1[g]? = some (.cells #[a, b, c] T (0, 0)) := by
 have h1 := heap_setCell_same w g 0 _ _ a h
 have h2 := heap_setCell_same _ g 1 _ _ b h1
 have h3 := heap_setCell_same _ g 2 _ _ c h2
 rw [h3]
 obtain ⟨l⟩ := cs
 match l, hc with
 | [x, y, z], _ => rfl
theorem tch3A (w : World) (g : Nat) (a b c : Value) : Tch (fun k => k = g) w (((w.setCell ⟨g, 0, none⟩ a).setCell ⟨g, 1, none⟩ b).setCell ⟨g, 2, none⟩ c) :=
 Tch.setCell (S := fun k => k = g) (p := ⟨g, 2, none⟩) (Tch.setCell (S := fun k => k = g) (p := ⟨g, 1, none⟩) (Tch.setCell (S := fun k => k = g) (p := ⟨g, 0, none⟩) (Tch.refl _ w) (fun _ => rfl) a) (fun _ => rfl) b) (fun _ => rfl) c
def nodeF (a : Aut) (u : List Bool) (i : Nat) : ANd := (a.at i).put (keptL u (a.at i).to)
theorem box5A {w : World} {g T : Nat} {a b c d e : Value} (h : w.1[g]? = some (.cells #[a, b, c, d, e] T (0, 0))) :
  w.cell? ⟨g, 0, none⟩ = some a ∧ w.cell? ⟨g, 1, none⟩ = some b ∧ w.cell? ⟨g, 2, none⟩ = some c ∧ w.cell? ⟨g, 3, none⟩ = some d ∧ w.cell? ⟨g, 4, none⟩ = some e := by
 refine ⟨?_, ?_, ?_, ?_, ?_⟩ <;> (rw [cell_of_row _ _ _ _ _ (0, 0) h]; rfl)
theorem trim_in (m : Nat) (hm : 5 ≤ m) (a : Aut) (Ai : Option Addr) (ni ci : Nat) (An : Option Addr) (nn cn : Nat) (w : World) (B : Nat) (h : AutRd w B a Ai ni ci An nn cn) (hB : B ≤ w.1.size) (hT : TabAt 0 Lib.deBruijn64tab w) (hg : 0 < w.1.size)
  (hnd : ∀ x ∈ a.nodes, x.need < 2 ^ 64 ∧ x.ban < 2 ^ 64) (hinn : ∀ x ∈ a.nodes, x.inn < 2 ^ 64) (KE : Nat) (hr : ∀ x ∈ a.nodes, x.to.length ≤ KE) (hri : a.init.length ≤ 100000000) (hKE : KE ≤ 1000000) :
  CallsIn Fence.wide m Tryz.prog 13 #[.agg #[.int .i64 a.sets, .slice Ai ni ci, .slice An nn cn]] w (AutOneS w (trimF a)) := by
 have h1m : 1 ≤ m := by omega
 obtain ⟨hb0, x0, y0, z0⟩ := two_new w (.cells #[.int .i64 a.sets, .slice Ai ni ci, .slice An nn cn] 25) (.cells #[.int .i64 0, .slice none 0 0, .slice none 0 0] 25)
 obtain ⟨W0, hW0⟩ := xQ ((w.alloc (.cells #[.int .i64 a.sets, .slice Ai ni ci, .slice An nn cn] 25)).alloc (.cells #[.int .i64 0, .slice none 0 0, .slice none 0 0] 25))
 rw [hW0] at hb0 x0 y0 z0
 have HR0 := dh (h.below hb0 hB)
 have HC0 := dh (autoCheck_any a Ai ni ci An nn cn W0 B HR0.out (by omega) hri (fun x hx => by have := hr x hx; omega))
 have HW0 := dh hW0
 have HB0 := dh hb0
 have HX0 := dh x0
 have HY0 := dh y0
 have HZ0 := dh z0
 have HG := dh hg
 have HTB := dh hT
 clear hW0 hb0 x0 y0 z0 h hT hg
 refine callsIn_of_wp_marks Tryz.func13 rfl trivial ?_ rfl
 refine wpIn_wide.2 ?_
 simp only [Tryz.ntmps13, List.size_toArray, List.length_cons, List.length_nil, Nat.reduceAdd, Nat.reduceSub, Array.replicate_succ, Array.replicate_zero, List.push_toArray, List.append_toArray, List.nil_append, List.cons_append]
 go_upto_region 1 with fail
 rw [HW0.out]
 have q0 : W0.cell? ⟨w.1.size, 0, none⟩ = some (.int .i64 a.sets) := cR HX0.out
 have q1 : W0.cell? ⟨w.1.size, 1, none⟩ = some (.slice Ai ni ci) := cR HX0.out
 have q2 : W0.cell? ⟨w.1.size, 2, none⟩ = some (.slice An nn cn) := cR HX0.out
 go_wp2_with fail
 refine HC0.out.mono ?_
 rintro e w1 ⟨rfl, hb1⟩
 have hx1 : w1.1[w.1.size]? = some _ := (hb1.block w.1.size (by have := HZ0.out; omega)).trans HX0.out
 have hy1 : w1.1[w.1.size + 1]? = some _ := (hb1.block (w.1.size + 1) (by have := HZ0.out; omega)).trans HY0.out
 have hz1 := hb1.size
 have HB1 := dh hb1
 have HBB := dh (HB0.out.trans (HB1.out.mono (show w.1.size ≤ W0.1.size by have := HZ0.out; omega)))
 clear hb1 q0 q1 q2
 by_cases hck : chkA a = 0
 ·have HCK := dh hck
  obtain ⟨hn256, ⟨hs0, hs16⟩, hA, -⟩ := chk_iff.1 hck
  have HOK := dh hA
  obtain ⟨s, hss⟩ : ∃ s : Nat, a.sets = s := ⟨a.sets.toNat, by omega⟩
  have HX1 := dh hx1
  have HY1 := dh hy1
  have hx1' := hx1
  rw [hss] at hx1'
  have q0 : w1.cell? ⟨w.1.size, 0, none⟩ = some (.int .i64 (s : Int)) := cR hx1'
  have q1 : w1.cell? ⟨w.1.size, 1, none⟩ = some (.slice Ai ni ci) := cR hx1'
  have q2 : w1.cell? ⟨w.1.size, 2, none⟩ = some (.slice An nn cn) := cR hx1'
  have HNN := dh HR0.out.enn
  have hnn : nn ≤ 256 := by rw [HNN.out]; exact hn256
  have HR1 := dh (HR0.out.below HB1.out (show B ≤ W0.1.size by have := HZ0.out; omega))
  have HOV := dh (over_any a s Ai ni ci An nn cn w1 B HR1.out (by have := HZ0.out; omega) HOK.out (by omega) hnd hri (by omega) (fun x hx => by have := hr x hx; omega))
  have HSS := dh hss
  rw [hck]
  clear hx1 hx1' hy1 hss hck hn256
  go_wp2_with fail
  refine HOV.out.mono ?_
  rintro e w3 hp
  obtain ⟨pi, qi, ri, pe, qe, re, pl, ql, rl, pc, qc, rc, rfl, hpl, hb3⟩ := hp.open_
  have HQI := dh hpl.eni
  have HQE : Hid (qe = nn) := dh (by have := hpl.ene; rw [openE_len] at this; rw [this, HNN.out])
  have HQL : Hid (ql = nn) := dh (by have := hpl.enl; rw [this, HNN.out]; simp [needsA])
  have HPL := dh hpl
  have HB3 := dh hb3
  have hz3 := hb3.size
  clear hp hpl hb3 q0 q1 q2
  obtain ⟨W3, hW3⟩ := xQ (w3.alloc (.cells #[.slice pi qi ri, .slice pe qe re, .slice pl ql rl, .slice pc qc rc, .int .u64 (allB s : Int)] 57))
  have HW3 := dh hW3
  have hbW3 : Below w3.1.size w3 W3 := by rw [← hW3]; exact bR.alloc lR _
  have hzW3 : W3.1.size = w3.1.size + 1 := by rw [← hW3]; simp
  have hp3 : W3.1[w3.1.size]? = some (.cells #[.slice pi qi ri, .slice pe qe re, .slice pl ql rl, .slice pc qc rc, .int .u64 (allB s : Int)] 57 (0, 0)) := by rw [← hW3]; exact heap_alloc_new w3 _
  have HBW3 := dh (HB3.out.trans (hbW3.mono hz3))
  have HX3 := dh ((HBW3.out.block w.1.size (by have := HZ0.out; omega)).trans HX1.out)
  have HPP3 := dh hp3
  have HPL3 := dh (HPL.out.below hbW3 lR)
  have q1 : W3.cell? ⟨w.1.size, 1, none⟩ = some (.slice Ai ni ci) := cR HX3.out
  have q2 : W3.cell? ⟨w.1.size, 2, none⟩ = some (.slice An nn cn) := cR HX3.out
  obtain ⟨k, hk⟩ := xR ((nn + 63) / 64)
  have HNW := dh (bnew_any nn k W3 (by omega) hk)
  have HKK := dh hk
  clear hW3 hbW3 hp3 hk
  go_upto_region 4 with fail
  rw [HW3.out]
  go_wp2_with fail
  refine HNW.out.mono ?_
  rintro e w' ⟨rfl, rfl⟩
  obtain ⟨W4, hW4⟩ := xQ (((W3.alloc (.cells (madeCells #[.int .u64 0] k) 34)).alloc (.cells #[.int .i64 (nn : Int), .slice (some ⟨w3.1.size + 1, 0, none⟩) k k] 85)).alloc (.cells #[.pointer (some ⟨w3.1.size + 1 + 1, 0, none⟩)] 59))
  have HW4 := dh hW4
  have hbW4 : Below W3.1.size W3 W4 := by rw [← hW4]; exact ((bR.alloc lR _).alloc (by simp) _).alloc (by simp; omega) _
  have hz4 : W4.1.size = w3.1.size + 4 := by rw [← hW4]; simp; omega
  have hX4 : BSet (w3.1.size + 1 + 1) (w3.1.size + 1) nn (List.replicate k 0) W4 := by
   rw [← hW4]
   have hsz : (W3.alloc (.cells (madeCells #[.int .u64 0] k) 34)).1.size = w3.1.size + 1 + 1 := by simp; omega
   have h1 := own_made (w := W3) (base := 0) (e := 34) (v := .int .u64 0) (n := k) (Nat.zero_le _) (by have := HKK.out; unfold maxLen; omega)
   rw [hzW3] at h1
   refine ⟨?_, ?_, by rw [List.length_replicate]; exact HKK.out, fun x hx => by rw [List.eq_of_mem_replicate hx]; decide, by omega⟩
   ·rw [Below.heap_alloc _ _ _ (by rw [World.size_alloc, hsz]; omega), heap_new hsz.symm, List.length_replicate]
   ·have e : wcells (List.replicate k 0) = List.replicate k (.int .u64 0) := by simp [wcells]
    rw [List.length_replicate, e]
    exact ((h1.alloc _).alloc _)
  have hbx1 : W4.cell? ⟨w3.1.size + 1 + 1 + 1, 0, none⟩ = some (.pointer (some ⟨w3.1.size + 1 + 1, 0, none⟩)) := by
   rw [← hW4]
   have := (Boxed.new ((W3.alloc (.cells (madeCells #[.int .u64 0] k) 34)).alloc (.cells #[.int .i64 (nn : Int), .slice (some ⟨w3.1.size + 1, 0, none⟩) k k] 85)) 59 (.pointer (some ⟨w3.1.size + 1 + 1, 0, none⟩))).cell
   rw [World.size_alloc, World.size_alloc, hzW3] at this
   exact this
  have HX4 := dh hX4
  have HBX1 := dh hbx1
  have HBW4 := dh (HBW3.out.trans (hbW4.mono (show w1.1.size ≤ W3.1.size by omega)))
  have hpp4 : W4.1[w3.1.size]? = some _ := (hbW4.block w3.1.size (by omega)).trans HPP3.out
  have HPP4 := dh hpp4
  have HPL4 := dh (HPL3.out.below hbW4 (by omega))
  have hqk : qe * KE ≤ 1000000000 := by
   have : qe * KE ≤ 256 * KE := Nat.mul_le_mul_right _ (by have := HQE.out; omega)
   omega
  have hqil : qi ≤ 100000000 := by
   rw [HQI.out]
   exact Nat.le_trans (List.length_filter_le _ _) hri
  have HRE : Hid (∀ W', Below W4.1.size W4 W' → Calls Tryz.prog 28 #[.agg #[.slice pi qi ri, .slice pe qe re, .slice pl ql rl], .slice pi qi ri] W' (NewRow W' 4 1 qe ((reachG qe (openE a) (openI a)).map .bool) False)) :=
   dh (fun W' hb => reachP_any pi pe pl qi ri qe re ql rl ⟨openI a, openE a, _⟩ (openI a) pi qi ri W' W'.1.size ((HPL4.out.below hb (by omega)).g.up (by have := hb.size; omega)) (((HPL4.out.below hb (by omega)).g.hi).up (by have := hb.size; omega)) HQI.out lR (by have := HQE.out; omega) (by omega) (fun r hr' => by have := open_row hr r hr'; omega))
  have HLA : Hid (∀ W', Below W4.1.size W4 W' → Calls Tryz.prog 29 #[.agg #[.slice pi qi ri, .slice pe qe re, .slice pl ql rl, .slice pc qc rc, .int .u64 (allB s : Int)]] W' (NewRow W' 4 1 qe (bcells (lastR (openE a) (insA a) s)) False)) :=
   dh (fun W' hb => lasting_any (openI a) (openE a) _ (insA a) s pi qi ri pe qe re pl ql rl pc qc rc W'.1.size W' ((HPL4.out.below hb (by omega)).up (by have := hb.size; omega)) lR (open_nd HOK.out) (by have := HQE.out; omega) KE (open_row hr) hqk hKE (by rw [insA_len, openE_len]) (ins_lt hinn) (by have := HSS.out; omega) (by omega) (by have := HQL.out; omega))
  go_upto_region 5 with fail
  obtain ⟨p0, p1, p2, p3, p4⟩ := box5A hpp4
  clear hW4 hbW4 hX4 hbx1 hpp4
  refine wp_only ?_
  refine wp_region_held_drew (S := fun w' => w'.cell? ⟨w3.1.size, 0, none⟩ = some (.slice pi qi ri) ∧ w'.cell? ⟨w3.1.size, 1, none⟩ = some (.slice pe qe re) ∧ w'.cell? ⟨w3.1.size, 2, none⟩ = some (.slice pl ql rl) ∧ w'.cell? ⟨w3.1.size, 3, none⟩ = some (.slice pc qc rc) ∧ w'.cell? ⟨w3.1.size, 4, none⟩ = some (.int .u64 (allB s : Int))) (by kernel_rfl) ⟨p0, p1, p2, p3, p4⟩ (fun hS => ?_)
  refine tkH 0 ?_
  refine tkH 1 ?_
  refine tkH 2 ?_
  refine tkH 3 ?_
  refine tkH 4 ?_
  refine tkH 6 ?_
  refine oneH 5 (fun K hK => ?_)
  go_simp
  refine (HRE.out _ (Below.drew bR)).mono ?_
  rintro e w5 ⟨v5, rfl, ho5, hb5', -⟩
  have hb5 : Below W4.1.size W4 w5 := below_undrew hb5'
  obtain ⟨A5, c5, rfl, -⟩ := own_sl ho5
  have HB5 := dh hb5
  have HO5 := dh ho5
  have hp5 : w5.1[w3.1.size]? = some _ := (hb5.block w3.1.size (by omega)).trans HPP4.out
  obtain ⟨k0, k1, k2, k3, k4⟩ := box5A hp5
  clear hb5 hb5' ho5
  dsimp only
  refine hK.out _ _ ⟨k0, k1, k2, k3, k4⟩ (fun hS => ?_)
  clear hK
  refine oneH 7 (fun K hK => ?_)
  go_simp
  refine (HLA.out _ HB5.out).mono ?_
  rintro e w6 ⟨v6, rfl, ho6, hb6, -⟩
  obtain ⟨A6, c6, rfl, -⟩ := own_sl ho6
  have HB6 := dh hb6
  have HO6 := dh ho6
  have hp6 : w6.1[w3.1.size]? = some _ := (hb6.block w3.1.size (by have := HB5.out.size; omega)).trans hp5
  obtain ⟨l0, l1, l2, l3, l4⟩ := box5A hp6
  clear hb6 ho6
  dsimp only
  refine hK.out _ _ ⟨l0, l1, l2, l3, l4⟩ (fun hS => ?_)
  clear hK
  refine tkH 8 ?_
  refine tkH 9 ?_
  refine wpAnyH_done (by kernel_rfl) ?_ _
  go_upto_region 6 with fail
  have HB6W := dh (HB5.out.trans (HB6.out.mono HB5.out.size))
  have hz6 := HB6W.out.size
  have hx6 : w6.1[w.1.size]? = some _ := ((HBW4.out.trans (HB6W.out.mono (show w1.1.size ≤ W4.1.size by omega))).block w.1.size (by have := HZ0.out; omega)).trans HX1.out
  have q0 : w6.cell? ⟨w.1.size, 0, none⟩ = some (.int .i64 a.sets) := cR hx6
  have q1 : w6.cell? ⟨w.1.size, 1, none⟩ = some (.slice Ai ni ci) := cR hx6
  have q2 : w6.cell? ⟨w.1.size, 2, none⟩ = some (.slice An nn cn) := cR hx6
  have hmk := run_make_row' (P := Tryz.prog) 22 3 (.int .i64 0) 8 Tryz.underlying22 infoInt rfl .i64 .i64 nn (by omega) (by omega)
  obtain ⟨W7, hW7⟩ := xQ ((w6.alloc (.cells (madeCells #[.int .i64 0] nn) 3)).alloc (.cells #[.slice (some ⟨w6.1.size, 0, none⟩) nn nn] 22))
  have hbW7 : Below w6.1.size w6 W7 := by rw [← hW7]; exact (bR.alloc lR _).alloc (by simp) _
  have hz7 : W7.1.size = w6.1.size + 2 := by rw [← hW7]; simp
  have hrow7 : W7.ownsRow w6.1.size 3 1 (.slice (some ⟨w6.1.size, 0, none⟩) nn nn) nn (icells (List.replicate nn 0)) := by
   have h1 := own_made (w := w6) (base := w6.1.size) (e := 3) (v := .int .i64 0) (n := nn) lR (by unfold maxLen; omega)
   have h2 := h1.alloc (.cells #[.slice (some ⟨w6.1.size, 0, none⟩) nn nn] 22)
   rw [hW7] at h2
   have e : icells (List.replicate nn 0) = List.replicate nn (.int .i64 0) := by simp [icells]
   rw [e]
   exact h2
  have hbx7 : W7.cell? ⟨w6.1.size + 1, 0, none⟩ = some (.slice (some ⟨w6.1.size, 0, none⟩) nn nn) := by
   rw [← hW7]
   have := (Boxed.new (w6.alloc (.cells (madeCells #[.int .i64 0] nn) 3)) 22 (.slice (some ⟨w6.1.size, 0, none⟩) nn nn)).cell
   rw [World.size_alloc] at this
   exact this
  have hx7 : W7.1[w.1.size]? = some _ := (hbW7.block w.1.size (by have := HZ0.out; omega)).trans hx6
  have HX7 := dh hx7
  have HROW7 := dh hrow7
  have HBX7 := dh hbx7
  have HB46 := dh (HB6W.out.trans (hbW7.mono hz6))
  have HX7B := dh (HX4.out.below HB46.out)
  have HO5W := dh (own_below (own_below HO5.out HB6.out) hbW7)
  have HO6W := dh (own_below HO6.out hbW7)
  have HU : Hid (∀ i, i < nn → (useL a).getD i false = ((reachG qe (openE a) (openI a)).getD i false && (lastR (openE a) (insA a) s).getD i false)) := dh (fun i hi => by
   have hia : i < a.nodes.length := by rw [← HNN.out]; exact hi
   have hqe : qe = a.nodes.length := by rw [HQE.out, HNN.out]
   rw [Bool.eq_iff_iff, use_iff hia, Bool.and_eq_true]
   unfold UseP
   have e1 := reachG_iff (n := a.nodes.length) (E := openE a) (from_ := openI a) (i := (i : Int)) (isNd_iff.2 ⟨by omega, by omega⟩)
   rw [tN] at e1
   have e2 : a.sets.toNat = s := by have := HSS.out; omega
   rw [hqe, e1, last_iff (by rw [openE_len]; exact hia), e2])
  clear q0 q1 hx7 hrow7 hbx7 hx6
  have HTF : Hid (trimF a = trimU a (useL a)) := dh (by unfold trimF; rw [if_pos HCK.out]; rfl)
  generalize useL a = u at *
  go_upto_region 8 with fail
  clear q2 hmk hW7
  have q2 : W7.cell? ⟨w.1.size, 2, none⟩ = some (.slice An nn cn) := cR HX7.out
  go_wp2_with fail
  go_loopw [39, 8] (fun i o wr => ∃ (k : Nat) (Wd : List Nat) (atL : List Int), k ≤ nn ∧ i = .int .i64 (k : Int) ∧ o = .int .i64 ((numC u k : Nat) : Int) ∧ Hid (BSet (w3.1.size + 1 + 1) (w3.1.size + 1) nn Wd wr) ∧ Hid (SameW nn Wd (markK u nn k)) ∧ Hid (wr.ownsRow w6.1.size 3 1 (.slice (some ⟨w6.1.size, 0, none⟩) nn nn) nn (icells atL)) ∧ Hid (∀ i, i < k → u.getD i false = true → atL.getD i 0 = ((numC u i : Nat) : Int)) ∧ Hid (Tch (fun j => j = w3.1.size + 1 ∨ j = w6.1.size) W7 wr)) (fun i _ _ => nn - (intOf i).toNat)
  case atStart => exact ⟨0, List.replicate k 0, List.replicate nn 0, by omega, rfl, rfl, HX7B, dh (by rw [markK_zero, HKK.out]; exact SameW.start nn), HROW7, dh (fun i hi => absurd hi (Nat.not_lt_zero _)), dh (Tch.refl _ _)⟩
  case round =>
   obtain ⟨j, Wd, atL, hj, rfl, rfl, HXr, HSr, HRr, HAr, HTr⟩ := hrel
   have hzr := HTr.out.size
   by_cases hlt : j < nn
   ·have wj : IntKind.i64.wrap ((j : Int) + 1) = (j : Int) + 1 := by rw [wI]; omega
    have hle : numC u j ≤ j := numC_le j
    have wn : IntKind.i64.wrap (((numC u j : Nat) : Int) + 1) = ((numC u j : Nat) : Int) + 1 := by rw [wI]; omega
    have hj0 : (0 : Int) ≤ (j : Int) := by omega
    have hj1 : (j : Int) < (nn : Int) := by omega
    have hjq : (j : Int) < (qe : Int) := by have := HQE.out; omega
    have hb1 : wr.cell? ⟨w3.1.size + 1 + 1 + 1, 0, none⟩ = some (.pointer (some ⟨w3.1.size + 1 + 1, 0, none⟩)) := bD HTr.out (by omega) (fun e => by have e : w3.1.size + 1 + 1 + 1 = w3.1.size + 1 ∨ w3.1.size + 1 + 1 + 1 = w6.1.size := e; omega) (bC HB46.out (by omega) HBX1.out)
    have hb2 : wr.cell? ⟨w6.1.size + 1, 0, none⟩ = some (.slice (some ⟨w6.1.size, 0, none⟩) nn nn) := bD HTr.out (by omega) (fun e => by have e : w6.1.size + 1 = w3.1.size + 1 ∨ w6.1.size + 1 = w6.1.size := e; omega) HBX7.out
    have h5 := own_tch HO5W.out HTr.out (fun g hg e => by have h1 := HO5.out.lt g hg; have h2 : W4.1.size ≤ g := h1.1; have := HB6.out.size; omega)
    have h6 := own_tch HO6W.out HTr.out (fun g hg e => by have h1 := HO6.out.lt g hg; have := HB5.out.size; omega)
    obtain ⟨A', c', hf, hs5⟩ := own_sl h5
    cases hf
    obtain ⟨A', c', hf, hs6⟩ := own_sl h6
    cases hf
    have hc5 := hs5.cap
    have hm5 := hs5.max
    have hc6 := hs6.cap
    have hm6 := hs6.max
    unfold maxLen at hm5 hm6
    have hl5 := hs5.len
    have hl6 := hs6.len
    have e5 : ((reachG qe (openE a) (openI a)).map Value.bool)[j]? = some (.bool ((reachG qe (openE a) (openI a)).getD j false)) := by
     rw [List.getElem?_map, gD, gE (by simp at hl5; omega)]; rfl
    have e6 : (bcells (lastR (openE a) (insA a) s))[j]? = some (.bool ((lastR (openE a) (insA a) s).getD j false)) := by
     rw [bcells, List.getElem?_map, gD, gE (by rw [bcells_len] at hl6; omega)]; rfl
    obtain ⟨b5, o5, rfl, hbl5, d5⟩ := hs5.rd.at_ e5
    obtain ⟨b6, o6, rfl, hbl6, d6⟩ := hs6.rd.at_ e6
    have hu := HU.out j hlt
    generalize (reachG qe (openE a) (openI a)).getD j false = r5 at *
    generalize (lastR (openE a) (insA a) s).getD j false = r6 at *
    have HUJ := dh hu
    clear e5 e6 hs5 hs6 h5 h6 hl5 hl6 hu
    cases r5
    ·have hno : u.getD j false = false := by rw [HUJ.out]; rfl
     have HN := dh (show numC u (j + 1) = numC u j by rw [numC_succ, hno]; simp)
     have HMK := dh (markK_no (n := nn) hno)
     clear hno
     go_wp2_with fail
     go_roundw
     case rel => exact ⟨j + 1, Wd, atL, by omega, congrArg (Value.int .i64) (by omega), by rw [HN.out], HXr, dh (by rw [HMK.out]; exact HSr.out), HRr, dh (fun i hi hui => by
      by_cases e : i = j
      ·subst e; rw [HUJ.out] at hui; cases hui
      ·exact HAr.out i (by omega) hui), HTr⟩
     case measure => simp [intOf]; omega
    ·cases r6
     ·have hno : u.getD j false = false := by rw [HUJ.out]; rfl
      have HN := dh (show numC u (j + 1) = numC u j by rw [numC_succ, hno]; simp)
      have HMK := dh (markK_no (n := nn) hno)
      clear hno
      go_wp2_with fail
      go_roundw
      case rel => exact ⟨j + 1, Wd, atL, by omega, congrArg (Value.int .i64) (by omega), by rw [HN.out], HXr, dh (by rw [HMK.out]; exact HSr.out), HRr, dh (fun i hi hui => by
       by_cases e : i = j
       ·subst e; rw [HUJ.out] at hui; cases hui
       ·exact HAr.out i (by omega) hui), HTr⟩
      case measure => simp [intOf]; omega
     ·have hyes : u.getD j false = true := by rw [HUJ.out]; rfl
      have HN := dh (show numC u (j + 1) = numC u j + 1 by rw [numC_succ, hyes]; simp)
      have HMK := dh (markK_yes (n := nn) hyes)
      have HPUT := dh (bput_any (w3.1.size + 1 + 1) (w3.1.size + 1) nn Wd j wr HXr.out hlt)
      clear hyes
      go_wp2_with fail
      refine HPUT.out.mono ?_
      rintro e wp ⟨rfl, hXp, htp⟩
      have hne7 : w6.1.size ≠ w3.1.size + 1 := by omega
      have hrp := own_tch HRr.out htp (fun g hg e => by simp [Value.ownBlock] at hg; omega)
      have hal : atL.length = nn := by have := HRr.out.1; rw [icells_len] at this; omega
      have kU : wp.cell? ⟨w6.1.size, j, none⟩ = some (.int .i64 (atL.getD j 0)) := by
       rw [hrp.cellAt j (by omega)]
       simp [icells, List.getD, show j < atL.length by omega]
      have fU := hrp.frozenAt j
      have zU := (hrp.lt w6.1.size rfl).2
      have hb2p : wp.cell? ⟨w6.1.size + 1, 0, none⟩ = some (.slice (some ⟨w6.1.size, 0, none⟩) nn nn) := bD htp (by omega) (fun e => by have e : w6.1.size + 1 = w3.1.size + 1 := e; omega) hb2
      have HXP := dh hXp
      have HRP := dh hrp
      have HTP := dh htp
      clear hXp htp hrp hb1 hb2 d5 d6
      go_wp2_with fail
      go_roundw
      case rel => exact ⟨j + 1, putW Wd j, atL.set j ((numC u j : Nat) : Int), by omega, congrArg (Value.int .i64) (by omega), by rw [HN.out]; exact congrArg (Value.int .i64) (by omega), dh (HXP.out.tch (tch_cell (w := wp) w6.1.size j (.int .i64 ((numC u j : Nat) : Int))) (fun e => by omega) (fun e => by omega)), dh (by rw [← HMK.out]; exact HSr.out.put hlt), dh (by have := (HRP.out.stored j (.int .i64 ((numC u j : Nat) : Int))).1; rw [icells, List.map_set]; exact this), dh (fun i hi hui => by
       by_cases e : i = j
       ·subst e; rw [gD, List.getElem?_set_self (by omega)]; rfl
       ·rw [gD, List.getElem?_set_ne (by omega), ← gD]; exact HAr.out i (by omega) hui), dh ((HTr.out.then_ (HTP.out.wide (fun x e => .inl e))).then_ ((tch_cell (w := wp) w6.1.size j (.int .i64 ((numC u j : Nat) : Int))).wide (fun x e => .inr e)))⟩
      case measure => simp [intOf]; omega
   ·have hjn : j = nn := by omega
    have HSN : Hid (SameW nn Wd (markK u nn nn)) := dh (by have := HSr.out; rwa [hjn] at this)
    have HAN : Hid (∀ i, i < nn → u.getD i false = true → atL.getD i 0 = ((numC u i : Nat) : Int)) := dh (by have := HAr.out; rwa [hjn] at this)
    clear HSr HAr q2 hjn
    obtain ⟨V, hV⟩ := xQ (wr.alloc (.cells #[.func (.func 31) #[] #[.pointer (some ⟨w3.1.size + 1 + 1 + 1, 0, none⟩), .pointer (some ⟨w6.1.size + 1, 0, none⟩)]] 50))
    have hbV : Below wr.1.size wr V := by rw [← hV]; exact bR.alloc lR _
    have hzV : V.1.size = wr.1.size + 1 := by rw [← hV]; simp
    have hcV : V.cell? ⟨wr.1.size, 0, none⟩ = some (.func (.func 31) #[] #[.pointer (some ⟨w3.1.size + 1 + 1 + 1, 0, none⟩), .pointer (some ⟨w6.1.size + 1, 0, none⟩)]) := by rw [← hV]; exact (Boxed.new wr _ _).cell
    have HCV := dh hcV
    have HBV1 : Hid (Below w1.1.size w1 V) := dh (((HBW4.out.trans (HB46.out.mono (show w1.1.size ≤ W4.1.size by omega))).trans (HTr.out.below (show w1.1.size ≤ W7.1.size by omega) (fun x hx e => by have e : x = w3.1.size + 1 ∨ x = w6.1.size := e; omega))).trans (hbV.mono (show w1.1.size ≤ wr.1.size by omega)))
    have HRV := dh (HR1.out.below HBV1.out (by have := HZ0.out; omega))
    have HXV := dh ((HBV1.out.block w.1.size (by have := HZ0.out; omega)).trans HX1.out)
    have HYV := dh ((HBV1.out.block (w.1.size + 1) (by have := HZ0.out; omega)).trans HY1.out)
    have hb1 : V.cell? ⟨w3.1.size + 1 + 1 + 1, 0, none⟩ = some (.pointer (some ⟨w3.1.size + 1 + 1, 0, none⟩)) := bC hbV (by omega) (bD HTr.out (by omega) (fun e => by have e : w3.1.size + 1 + 1 + 1 = w3.1.size + 1 ∨ w3.1.size + 1 + 1 + 1 = w6.1.size := e; omega) (bC HB46.out (by omega) HBX1.out))
    have hb2 : V.cell? ⟨w6.1.size + 1, 0, none⟩ = some (.slice (some ⟨w6.1.size, 0, none⟩) nn nn) := bC hbV (by omega) (bD HTr.out (by omega) (fun e => by have e : w6.1.size + 1 = w3.1.size + 1 ∨ w6.1.size + 1 = w6.1.size := e; omega) HBX7.out)
    have hXV := HXr.out.below hbV
    have hRowV := own_below HRr.out hbV
    obtain ⟨A', c', hf, hsV⟩ := own_sl hRowV
    cases hf
    have HXSV := dh hXV
    have HB1V := dh hb1
    have HLF : Hid (∀ (W' : World) (l : List Int) (A : Option Addr) (n c : Nat), Below V.1.size V W' → Sl W' W'.1.size 1 A n c (icells l) → (∀ t ∈ l, isNd nn t = true) → l.length ≤ 100000000 → Calls Tryz.prog 31 #[.slice A n c, .pointer (some ⟨w3.1.size + 1 + 1 + 1, 0, none⟩), .pointer (some ⟨w6.1.size + 1, 0, none⟩)] W' (IntsPost W' (keptL u l))) :=
     dh (fun W' l A n c hb hs hl hll => left30_any u l atL A n c (w3.1.size + 1 + 1 + 1) (w6.1.size + 1) (w3.1.size + 1 + 1) (w3.1.size + 1) nn Wd (some ⟨w6.1.size, 0, none⟩) nn W' W'.1.size
      (bC hb (by omega) hb1) (by have := hb.size; omega) (bC hb (by omega) hb2) (by have := hb.size; omega)
      (hXV.below hb) (fun i hi => by rw [HSN.out.bit i, markK_at hi]; simp [hi]) HAN.out ((hsV.below hb lR).up hb.size) hs lR hl hll)
    go_upto_region 17 with fail
    have HZV := dh hzV
    clear hV hbV hb1 hb2 hXV hRowV hsV hzV
    obtain ⟨x0, x1, x2⟩ : V.cell? ⟨w.1.size, 0, none⟩ = some (.int .i64 a.sets) ∧ V.cell? ⟨w.1.size, 1, none⟩ = some (.slice Ai ni ci) ∧ V.cell? ⟨w.1.size, 2, none⟩ = some (.slice An nn cn) := by
     refine ⟨?_, ?_, ?_⟩ <;> (rw [cell_of_row _ _ _ _ _ (0, 0) HXV.out]; rfl)
    go_cut [11] from 12 (fun p wF => ∃ ob vi, p = .pointer (some ⟨ob, 0, none⟩) ∧ V.1.size ≤ ob ∧ Hid (OutM V.1.size ob a.sets vi (keptL u a.init) (.slice none 0 0) [] [] wF) ∧ Hid (Below V.1.size V wF))
    case first =>
     refine wp_only ?_
     refine wp_region_held_drew (S := fun w' => w'.cell? ⟨w.1.size, 0, none⟩ = some (.int .i64 a.sets) ∧ w'.cell? ⟨w.1.size, 1, none⟩ = some (.slice Ai ni ci) ∧ w'.cell? ⟨wr.1.size, 0, none⟩ = some (.func (.func 31) #[] #[.pointer (some ⟨w3.1.size + 1 + 1 + 1, 0, none⟩), .pointer (some ⟨w6.1.size + 1, 0, none⟩)])) (by kernel_rfl) ⟨x0, x1, HCV.out⟩ (fun hS => ?_)
     refine tkH 0 ?_
     refine tkH 1 ?_
     refine tkH 2 ?_
     refine tkH 3 ?_
     refine tkH 4 ?_
     refine wpAnyH_ready (rs := [5, 7]) (by kernel_rfl) (by simp) ?_
     refine (allReadyH_consD (i := 5) rfl (fun K hK => ?_) (allReadyH_consD (i := 7) rfl (fun K hK => ?_) AllReadyH.nil))
     ·skip
      go_simp
      refine (HLF.out _ a.init Ai ni ci (Below.drew bR) ((HRV.out.below (Below.drew bR) (show B ≤ V.1.size by have := HZ0.out; have := HZV.out; omega)).init.up (show B ≤ _ by have := HZ0.out; have := HZV.out; first | omega | (rw [World.size_drew]; omega))) (fun t ht => by rw [HNN.out]; exact HOK.out.1 t ht) hri).mono ?_
      rintro e w8 ⟨v8, rfl, ho8, hb8'⟩
      have hb8 : Below V.1.size V w8 := below_undrew hb8'
      obtain ⟨A8, c8, rfl, -⟩ := own_sl ho8
      dsimp only
      refine hK.out _ _ ⟨bC hb8 (by have := HZ0.out; have := HZV.out; omega) x0, bC hb8 (by have := HZ0.out; have := HZV.out; omega) x1, bC hb8 (by have := HZV.out; omega) HCV.out⟩ (fun hS => ?_)
      clear hK
      refine tkH 6 ?_
      refine oneH 7 (fun K hK => ?_)
      obtain ⟨wA, hwA⟩ := xQ (w8.alloc (.cells #[.int .i64 0, .slice none 0 0, .slice none 0 0] 25))
      have hbA : Below V.1.size V wA := by rw [← hwA]; exact hb8.alloc hb8.size _
      have hzA : wA.1.size = w8.1.size + 1 := by rw [← hwA]; simp
      have haA : wA.1[w8.1.size]? = some (.cells #[.int .i64 0, .slice none 0 0, .slice none 0 0] 25) := by rw [← hwA]; exact heap_alloc_new w8 _
      have hoA := own_below ho8 (by rw [← hwA]; exact bR.alloc lR _ : Below w8.1.size w8 wA)
      go_simp
      refine hK.out _ _ ⟨bC hbA (by have := HZ0.out; have := HZV.out; omega) x0, bC hbA (by have := HZ0.out; have := HZV.out; omega) x1, bC hbA (by have := HZV.out; omega) HCV.out⟩ (fun hS => ?_)
      clear hK
      refine oneH 8 (fun K hK => ?_)
      have y0 : wA.cell? ⟨w8.1.size, 0, none⟩ = some (.int .i64 0) := cR haA
      have y1 : wA.cell? ⟨w8.1.size, 1, none⟩ = some (.slice none 0 0) := cR haA
      have y2 : wA.cell? ⟨w8.1.size, 2, none⟩ = some (.slice none 0 0) := cR haA
      have f0 : wA.frozen? ⟨w8.1.size, 0, none⟩ = false := frozen_of_row wA _ 0 _ _ haA
      have f1 : wA.frozen? ⟨w8.1.size, 1, none⟩ = false := frozen_of_row wA _ 1 _ _ haA
      have f2 : wA.frozen? ⟨w8.1.size, 2, none⟩ = false := frozen_of_row wA _ 2 _ _ haA
      have yl : w8.1.size < wA.1.size := (aI.1 haA).1
      have ob0 : V.1.size ≤ w8.1.size := by first | exact lR | exact hb8.size
      have hset := set3A (a := .int .i64 a.sets) (b := .slice A8 (keptL u a.init).length c8) (c := .slice none 0 0) haA rfl
      have htc := tch3A wA (w8.1.size) (.int .i64 a.sets) (.slice A8 (keptL u a.init).length c8) (.slice none 0 0)
      have hof := own_tch hoA htc (fun g hg e => own_ne_blk hoA haA (by decide) (by rw [hg, e]))
      obtain ⟨wF, hwF⟩ := xQ (((wA.setCell ⟨w8.1.size, 0, none⟩ (.int .i64 a.sets)).setCell ⟨w8.1.size, 1, none⟩ (.slice A8 (keptL u a.init).length c8)).setCell ⟨w8.1.size, 2, none⟩ (.slice none 0 0))
      rw [hwF] at hset htc hof
      have hbF : Below V.1.size V wF := hbA.trans (htc.below hbA.size (fun x hx e => by have e : x = w8.1.size := e; omega))
      have HOUT : Hid (OutM V.1.size (w8.1.size) a.sets (.slice A8 (keptL u a.init).length c8) (keptL u a.init) (.slice none 0 0) [] [] wF) := dh ⟨hset, own_base hof (Nat.zero_le _), NodesM.nil _ _⟩
      have HBF := dh hbF
      have OB0 := dh ob0
      clear hset htc hof
      go_simp
      try rw [hwF]
      refine hK.out _ _ ⟨bC hbF (by have := HZ0.out; have := HZV.out; omega) x0, bC hbF (by have := HZ0.out; have := HZV.out; omega) x1, bC hbF (by have := HZV.out; omega) HCV.out⟩ (fun hS => ?_)
      clear hK
      refine wpAnyH_done (by kernel_rfl) ?_ _
      go_wp2_with fail
      go_meet
      case rel => exact ⟨_, _, rfl, OB0.out, HOUT, HBF⟩
     ·skip
      obtain ⟨wA, hwA⟩ := xQ (V.drew.alloc (.cells #[.int .i64 0, .slice none 0 0, .slice none 0 0] 25))
      have hbA : Below V.1.size V wA := by rw [← hwA]; exact (Below.drew bR).alloc lR _
      have hzA : wA.1.size = V.1.size + 1 := by rw [← hwA]; simp
      have haA : wA.1[V.1.size]? = some (.cells #[.int .i64 0, .slice none 0 0, .slice none 0 0] 25) := by rw [← hwA]; exact heap_alloc_new V.drew _
      go_simp
      refine hK.out _ _ ⟨bC hbA (by have := HZ0.out; have := HZV.out; omega) x0, bC hbA (by have := HZ0.out; have := HZV.out; omega) x1, bC hbA (by have := HZV.out; omega) HCV.out⟩ (fun hS => ?_)
      clear hK
      refine oneH 5 (fun K hK => ?_)
      go_simp
      refine (HLF.out _ a.init Ai ni ci hbA ((HRV.out.below hbA (show B ≤ V.1.size by have := HZ0.out; have := HZV.out; omega)).init.up (show B ≤ _ by have := HZ0.out; have := HZV.out; first | omega | (rw [World.size_drew]; omega))) (fun t ht => by rw [HNN.out]; exact HOK.out.1 t ht) hri).mono ?_
      rintro e w8 ⟨v8, rfl, ho8, hb8'⟩
      have hb8 : Below V.1.size V w8 := hbA.trans (hb8'.mono hbA.size)
      obtain ⟨A8, c8, rfl, -⟩ := own_sl ho8
      have ha8 : w8.1[V.1.size]? = some (.cells #[.int .i64 0, .slice none 0 0, .slice none 0 0] 25) := (hb8'.block V.1.size (by rw [hzA]; omega)).trans haA
      dsimp only
      refine hK.out _ _ ⟨bC hb8 (by have := HZ0.out; have := HZV.out; omega) x0, bC hb8 (by have := HZ0.out; have := HZV.out; omega) x1, bC hb8 (by have := HZV.out; omega) HCV.out⟩ (fun hS => ?_)
      clear hK
      refine tkH 6 ?_
      refine oneH 8 (fun K hK => ?_)
      have y0 : w8.cell? ⟨V.1.size, 0, none⟩ = some (.int .i64 0) := cR ha8
      have y1 : w8.cell? ⟨V.1.size, 1, none⟩ = some (.slice none 0 0) := cR ha8
      have y2 : w8.cell? ⟨V.1.size, 2, none⟩ = some (.slice none 0 0) := cR ha8
      have f0 : w8.frozen? ⟨V.1.size, 0, none⟩ = false := frozen_of_row w8 _ 0 _ _ ha8
      have f1 : w8.frozen? ⟨V.1.size, 1, none⟩ = false := frozen_of_row w8 _ 1 _ _ ha8
      have f2 : w8.frozen? ⟨V.1.size, 2, none⟩ = false := frozen_of_row w8 _ 2 _ _ ha8
      have yl : V.1.size < w8.1.size := (aI.1 ha8).1
      have ob0 : V.1.size ≤ V.1.size := by first | exact lR | exact hb8.size
      have hset := set3A (a := .int .i64 a.sets) (b := .slice A8 (keptL u a.init).length c8) (c := .slice none 0 0) ha8 rfl
      have htc := tch3A w8 (V.1.size) (.int .i64 a.sets) (.slice A8 (keptL u a.init).length c8) (.slice none 0 0)
      have hof := own_tch ho8 htc (fun g hg e => own_ne_blk ho8 ha8 (by decide) (by rw [hg, e]))
      obtain ⟨wF, hwF⟩ := xQ (((w8.setCell ⟨V.1.size, 0, none⟩ (.int .i64 a.sets)).setCell ⟨V.1.size, 1, none⟩ (.slice A8 (keptL u a.init).length c8)).setCell ⟨V.1.size, 2, none⟩ (.slice none 0 0))
      rw [hwF] at hset htc hof
      have hbF : Below V.1.size V wF := hb8.trans (htc.below hb8.size (fun x hx e => by have e : x = V.1.size := e; omega))
      have HOUT : Hid (OutM V.1.size (V.1.size) a.sets (.slice A8 (keptL u a.init).length c8) (keptL u a.init) (.slice none 0 0) [] [] wF) := dh ⟨hset, own_base hof (Nat.zero_le _), NodesM.nil _ _⟩
      have HBF := dh hbF
      have OB0 := dh ob0
      clear hset htc hof
      go_simp
      try rw [hwF]
      refine hK.out _ _ ⟨bC hbF (by have := HZ0.out; have := HZV.out; omega) x0, bC hbF (by have := HZ0.out; have := HZV.out; omega) x1, bC hbF (by have := HZV.out; omega) HCV.out⟩ (fun hS => ?_)
      clear hK
      refine wpAnyH_done (by kernel_rfl) ?_ _
      go_wp2_with fail
      go_meet
      case rel => exact ⟨_, _, rfl, OB0.out, HOUT, HBF⟩
    case rest =>
     obtain ⟨ob, vi, rfl, hob, HOUT, HBF⟩ := hcut
     have hzf := HBF.out.size
     have hbw : wc.cell? ⟨w3.1.size + 1 + 1 + 1, 0, none⟩ = some (.pointer (some ⟨w3.1.size + 1 + 1, 0, none⟩)) := bC HBF.out (by have := HZV.out; omega) HB1V.out
     have HALL := dh (bitsAll_any (some ⟨w3.1.size + 1 + 1, 0, none⟩) wc)
     clear x0 x1 x2 hcV
     go_wp2_with fail
     refine HALL.out.mono ?_
     rintro e w' ⟨rfl, rfl⟩
     go_wp2_with fail
     obtain ⟨W9, hW9⟩ := xQ (wc.alloc (.cells #[.pointer (some ⟨w3.1.size + 1 + 1, 0, none⟩)] 59))
     have hb9 : Below wc.1.size wc W9 := by rw [← hW9]; exact bR.alloc lR _
     have hz9 : W9.1.size = wc.1.size + 1 := by rw [← hW9]; simp
     have hc9 : W9.cell? ⟨wc.1.size, 0, none⟩ = some (.pointer (some ⟨w3.1.size + 1 + 1, 0, none⟩)) := by rw [← hW9]; exact (Boxed.new wc _ _).cell
     have HOUT9 := dh (HOUT.out.below hb9)
     have hob9 : ob < W9.1.size := HOUT9.out.lt
     have HBV9 := dh (HBF.out.trans (hb9.mono hzf))
     have HBW9 := dh (HBV1.out.trans (HBV9.out.mono (show w1.1.size ≤ V.1.size by have := HZV.out; omega)))
     have HBWW := dh (HBB.out.trans (HBW9.out.mono (show w.1.size ≤ w1.1.size by have := HZ0.out; omega)))
     have hX9 := HXSV.out.below HBV9.out
     have hT9 : TabAt 0 Lib.deBruijn64tab W9 := fun x hx => bC HBWW.out HG.out (HTB.out x hx)
     rw [hW9]
     clear hW9 hb9
     refine (wpIn_wide (n := m)).1 ?_
     have hgW := HG.out
     have HPRE : Hid (∀ (pre : List Nat) (x : Nat), pre ++ [x] <+: numsW Wd → pre.length ≤ 16384) := dh (fun pre x hp => by
      have h1 := hp.length_le
      have h2 : (numsW Wd).length ≤ 64 * Wd.length := by
       unfold numsW
       have := List.length_filter_le (bitOf Wd) (List.range (64 * Wd.length))
       rwa [List.length_range] at this
      have h3 := hX9.2.2.1
      rw [lA] at h1
      omega)
     have hM0 : ∀ x, (fun x => x = ob) x → x < W9.1.size := fun x e => by have e : x = ob := e; omega
     refine wpIn_rangeFunc_T rfl h1m (gf := 56) (lb := #[.pointer (some ⟨wc.1.size, 0, none⟩)]) rfl trivial (enters_of Tryz.func56 (by kernel_rfl) rfl)
      (all_T (m - 1) (by omega) wc.1.size (w3.1.size + 1 + 1) (w3.1.size + 1) nn Wd (fun x => x = ob) W9 hM0 (by have := HZV.out; have := HZ0.out; omega) (fun e => by have e : 0 = ob := e; have := HZV.out; have := HZ0.out; omega) hc9 (by omega) hX9 (fun e => by have e : w3.1.size + 1 = ob := e; have := HZV.out; omega) hT9) hM0 (fun _ => rfl)
      (fun (s' : List Nat × (Nat → Prop)) X => (∃ vn xs, OutM V.1.size ob a.sets vi (keptL u a.init) vn (s'.1.map (nodeF a u)) xs X ∧ (∀ g, vn.ownBlock = some g → s'.2 g)) ∧ (Rnd (fun x => x = ob) W9 s'.2 X ∧ s'.2 ob))
      (fun c s' X => False)
      (OwnFrom.and (fun s' X Y row hx hg' hr' => by obtain ⟨vn, xs, h1, h2⟩ := hx; exact ⟨vn, xs, h1.grown hg' hr', h2⟩) (OwnFrom.and (ownFrom_rnd lR (fun s' : List Nat × (Nat → Prop) => s'.2)) (ownFrom_pure _ _)))
      (fun c _ _ _ _ h _ _ => h)
      ⟨⟨_, _, HOUT9.out, fun g hg => by simp [Value.ownBlock] at hg⟩, Rnd.refl hM0, rfl⟩
      (fun (x : Nat) a' _ => a' = { tmps := #[.agg #[.int .i64 a.sets, .slice Ai ni ci, .slice An nn cn], .pointer (some ⟨w.1.size, 0, none⟩), .pointer (some ⟨w.1.size + 1, 0, none⟩), .pointer (some ⟨w3.1.size, 0, none⟩), .pointer (some ⟨w3.1.size + 1 + 1 + 1, 0, none⟩), .slice A5 qe c5, .slice A6 qe c6, .pointer (some ⟨w6.1.size + 1, 0, none⟩), .int .i64 ((numC u j : Nat) : Int), u9, .pointer (some ⟨wr.1.size, 0, none⟩), .pointer (some ⟨ob, 0, none⟩), .int .i64 (x : Int), u13, u14, u15, u16, u17, u18, u19, u20, u21, u22, u23, u24, u25, u26, u27, u28, u29, u30, u31, u32, u33, u34, u35, u36, u37, u38, u39, u40, u41, u42, u43, u44, u45, u46, u47, u48, u49, u50, u51, u52, u53, u54, u55, u56, u57, u58, u59, u60, u61, u62, u63, u64, u65, u66, u67, u68, u69, .pointer (some ⟨w3.1.size + 1 + 1, 0, none⟩), .func (.func 56) #[] #[.pointer (some ⟨wc.1.size, 0, none⟩)], .int .i64 (x : Int), u73, u74, u75, u76, u77, u78, u79, u80, u81, u82, u83, u84, u85, u86, u87, u88, u89, u90, u91, u92, u93, u94], defers := [] })
      (fun _ _ _ _ _ _ hs' _ _ => hs') ?assign ?body ?done ?stop
     case assign =>
      intro l2 pre x N1 X K hi _ hK
      gi_wp2
      exact hK _ _ (Tch.refl _ _) hi rfl
     case body =>
      rintro l2 pre x N1 a2 X hl2 _ _ hNX ⟨⟨vn, xs, hout, hvN⟩, hrnd, hNob⟩ rfl hlen
      dsimp only at hout hvN hrnd hNob
      have hxm : x ∈ numsW Wd := by
       obtain ⟨t, ht⟩ := hlen
       rw [← ht]; simp
      rw [HSN.out.nums] at hxm
      obtain ⟨hx1, hx2⟩ := List.mem_filter.1 hxm
      rw [markK_len] at hx1
      have hxn : x < nn := List.mem_range.1 hx1
      rw [markK_at hxn, decide_eq_true hxn, Bool.true_and] at hx2
      have hMob : ∀ y, (fun y => y = ob) y → V.1.size ≤ y := fun y e => by have e : y = ob := e; omega
      have HBX := dh (HBV9.out.trans (rnd_below hrnd (show V.1.size ≤ W9.1.size by omega) hMob))
      have hzX := HBX.out.size
      have HX1' := dh (((HBV1.out.trans (HBX.out.mono (show w1.1.size ≤ V.1.size by have := HZV.out; omega))).block w.1.size (by have := HZ0.out; omega)).trans HX1.out)
      have q2 : X.cell? ⟨w.1.size, 2, none⟩ = some (.slice An nn cn) := cR HX1'.out
      have hRX := HRV.out.below HBX.out (show B ≤ V.1.size by have := HZ0.out; have := HZV.out; omega)
      have hcn := (Exists.choose_spec hRX.nodes).1.cap
      have hmn := (Exists.choose_spec hRX.nodes).1.max
      unfold maxLen at hmn
      obtain ⟨bx, ox, nd, At, ct, hAn, hbx, hnd', d0, d1, d2, d3, hst⟩ := rd_aut hRX hxn
      have hndx : a.at x = nd := by unfold Aut.at; rw [gD, hnd']; rfl
      have hndm : nd ∈ a.nodes := List.mem_of_getElem? hnd'
      have HOUTX := dh hout
      have HRND := dh hrnd
      have HVN := dh hvN
      have HNX := dh hNX
      have HST := dh hst
      have HNDX := dh hndx
      have hx0 : (0 : Int) ≤ (x : Int) := by omega
      have hx1' : (x : Int) < (nn : Int) := by omega
      subst hAn
      have HX2 := dh hx2
      clear hout hrnd hvN hNX hst hRX hxm hx1 hnd' hndx hx2 hMob
      obtain ⟨Av, cv, rfl, -⟩ := own_sl HOUTX.out.nodes.own
      obtain ⟨np, hnp⟩ := xQ (pre.map (nodeF a u)).length
      have HNPQ := dh hnp
      have hnp16 : np ≤ 16384 := by
       have h1 := HPRE.out pre x hlen
       rw [← hnp, List.length_map]; omega
      rw [hnp] at HOUTX HVN
      clear hnp
      clear hlen
      obtain ⟨XA, hXA⟩ := xQ (X.alloc (.cells #[.int .u64 (nd.need : Int), .int .u64 (nd.ban : Int), .int .u64 (nd.inn : Int), .slice At nd.to.length ct] 36))
      have hbXA : Below X.1.size X XA := by rw [← hXA]; exact bR.alloc lR _
      have hzXA : XA.1.size = X.1.size + 1 := by rw [← hXA]; simp
      have hxA : XA.1[X.1.size]? = some (.cells #[.int .u64 (nd.need : Int), .int .u64 (nd.ban : Int), .int .u64 (nd.inn : Int), .slice At nd.to.length ct] 36 (0, 0)) := by rw [← hXA]; exact heap_alloc_new X _
      have HXA := dh hXA
      have HBXA := dh hbXA
      have HBA := dh (HBX.out.trans (hbXA.mono hzX))
      have HOA := dh (HOUTX.out.below hbXA)
      have HXC := dh hxA
      have HSTA := dh ((HST.out.below hbXA (by have := HZ0.out; have := HZV.out; omega)).up (show B ≤ XA.1.size by have := HZ0.out; have := HZV.out; omega))
      have HVG := dh (fun g (hg : (Value.slice Av np cv).ownBlock = some g) => (HOUTX.out.nodes.own.lt g hg))
      clear hXA hbXA hxA
      gi_wp2
      rw [HXA.out]
      clear d0 d1 d2 d3 q2
      obtain ⟨s0, s1, s2, s3⟩ := box4A HXC.out
      obtain ⟨r0, r1, r2⟩ := HOA.out.cells
      have rc : XA.cell? ⟨wr.1.size, 0, none⟩ = some (.func (.func 31) #[] #[.pointer (some ⟨w3.1.size + 1 + 1 + 1, 0, none⟩), .pointer (some ⟨w6.1.size + 1, 0, none⟩)]) := bC HBA.out (by have := HZV.out; omega) HCV.out
      clear r0 r1
      refine wpIn_norm ?_
      refine wpIn_region_U (S := fun w' => w'.cell? ⟨ob, 2, none⟩ = some (.slice Av np cv) ∧ w'.cell? ⟨X.1.size, 0, none⟩ = some (.int .u64 (nd.need : Int)) ∧ w'.cell? ⟨X.1.size, 1, none⟩ = some (.int .u64 (nd.ban : Int)) ∧ w'.cell? ⟨X.1.size, 2, none⟩ = some (.int .u64 (nd.inn : Int)) ∧ w'.cell? ⟨X.1.size, 3, none⟩ = some (.slice At nd.to.length ct) ∧ w'.cell? ⟨wr.1.size, 0, none⟩ = some (.func (.func 31) #[] #[.pointer (some ⟨w3.1.size + 1 + 1 + 1, 0, none⟩), .pointer (some ⟨w6.1.size + 1, 0, none⟩)])) 16 (by kernel_rfl) (by kernel_rfl) lets_none ⟨r2, s0, s1, s2, s3, rc⟩ (fun hS => ?_)
      refine tkU 0 [] ?_
      refine tkU 1 [] ?_
      refine tkU 2 [] ?_
      refine tkU 3 [] ?_
      refine tkU 4 [] ?_
      refine tkU 5 [] ?_
      refine tkU 6 [] ?_
      refine tkU 7 [] ?_
      refine tkU 8 [] ?_
      refine tkU 9 [] ?_
      refine tkU 10 [] ?_
      refine wpAnyU_oneD (i := 11) rfl (by kernel_rfl) (fun K hK => ?_)
      go_simp
      refine (HLF.out _ nd.to At _ ct (Below.drew HBA.out) (HSTA.out.below (B' := XA.1.size) (Below.drew bR) lR) (fun t ht => by rw [HNN.out]; exact HOK.out.2 nd hndm t ht) (by have := hr nd hndm; omega)).mono ?_
      rintro e w8 ⟨v8, rfl, ho8, hb8'⟩
      have hb8 : Below XA.1.size XA w8 := below_undrew hb8'
      obtain ⟨A8, c8, rfl, -⟩ := own_sl ho8
      have HO8 := dh ho8
      have HB8 := dh hb8
      have hO8 := HOA.out.below hb8
      have HOM8 := dh hO8
      clear ho8 hb8' hO8
      dsimp only
      refine hK.out _ _ ⟨bC hb8 (show ob < XA.1.size from HOA.out.lt) r2, bC hb8 (by omega) s0, bC hb8 (by omega) s1, bC hb8 (by omega) s2, bC hb8 (by omega) s3, bC hb8 (by have := HZV.out; omega) rc⟩ (fun hS => ?_)
      clear hK
      refine tkU 12 [] ?_
      refine wpAnyU_oneD (i := 13) rfl (by kernel_rfl) (fun K hK => ?_)
      go_simp
      have tb := heap_alloc_new w8 (.cells #[.int .u64 (nd.need : Int), .int .u64 (nd.ban : Int), .int .u64 (nd.inn : Int), .slice A8 (keptL u nd.to).length c8] 36)
      obtain ⟨wY, hwY⟩ := xQ (w8.alloc (.cells #[.int .u64 (nd.need : Int), .int .u64 (nd.ban : Int), .int .u64 (nd.inn : Int), .slice A8 (keptL u nd.to).length c8] 36))
      have hbY : Below w8.1.size w8 wY := by rw [← hwY]; exact bR.alloc lR _
      have hOY := HOM8.out.below hbY
      have hz8 := HB8.out.size
      have t0 := bC hbY HOM8.out.lt hS.1
      have t1 := bC hbY (by omega) hS.2.1
      have t2 := bC hbY (by omega) hS.2.2.1
      have t3 := bC hbY (by omega) hS.2.2.2.1
      have t4 := bC hbY (by omega) hS.2.2.2.2.1
      have t5 := bC hbY (by have := HZV.out; omega) hS.2.2.2.2.2
      rw [hwY] at tb ⊢
      have HWY := dh hwY
      have hzY : wY.1.size = w8.1.size + 1 := by rw [← hwY]; simp
      clear hwY
      refine hK.out _ _ ⟨t0, t1, t2, t3, t4, t5⟩ (fun hS => ?_)
      clear hK
      refine wpAnyU_oneD (i := 14) rfl (by kernel_rfl) (fun K hK => ?_)
      refine step_push rfl (.tmp 79) (.tmp 91) 23 rfl V.1.size 36 4 48 sliceANd _ _ _ hOY.nodes.own (by rfl) w8.1.size #[.int .u64 (nd.need : Int), .int .u64 (nd.ban : Int), .int .u64 (nd.inn : Int), .slice A8 (keptL u nd.to).length c8] (by rfl) tb rfl (by simp [Value.oneCell']) (by have := HNPQ.out; omega) (by omega) (by omega) ?_
      intro uZ wZ hownZ htZ hatZ _
      obtain ⟨gZ, cZ, rfl⟩ := ownsRow_succ hownZ
      rw [← HWY.out] at htZ hatZ
      have hpush := HOM8.out.push (x := nd.put (keptL u nd.to)) (own_base HO8.out (Nat.zero_le _)) hownZ htZ
      obtain ⟨⟨fz, lz, cz⟩, hOZ⟩ := hpush
      have htZ2 := htZ
      rw [HWY.out] at htZ2
      have t1 := bD htZ2 (by omega) (fun e => by have := HVG.out _ e; have h9 : X.1.size < X.1.size := this.2; omega) hS.2.1
      have t2 := bD htZ2 (by omega) (fun e => by have := HVG.out _ e; have h9 : X.1.size < X.1.size := this.2; omega) hS.2.2.1
      have t3 := bD htZ2 (by omega) (fun e => by have := HVG.out _ e; have h9 : X.1.size < X.1.size := this.2; omega) hS.2.2.2.1
      have t4 := bD htZ2 (by omega) (fun e => by have := HVG.out _ e; have h9 : X.1.size < X.1.size := this.2; omega) hS.2.2.2.2.1
      have t5 := bD htZ2 (by have := HZV.out; omega) (fun e => by have := HVG.out _ e; have h9 : V.1.size ≤ wr.1.size := this.1; have := HZV.out; omega) hS.2.2.2.2.2
      have HOZ := dh hOZ
      have HTZ := dh htZ
      have HATZ := dh hatZ
      have HOWN := dh hownZ
      clear hOZ htZ htZ2 hatZ hownZ
      refine hK.out _ _ ⟨cz, t1, t2, t3, t4, t5⟩ (fun hS => ?_)
      clear hK
      refine tkU 15 [] ?_
      refine wpAnyU_lastD (i := 16) rfl (by kernel_rfl) (by kernel_rfl) (fun K hK => ?_)
      go_simp
      refine hK.out _ _ ?_
      clear hK
      refine wpAnyU_done (by kernel_rfl) ?_
      clear hS t0 t1 t2 t3 t4 t5
      gi_wp2
      have hnx : nodeF a u x = nd.put (keptL u nd.to) := by unfold nodeF; rw [HNDX.out]
      have hO := HOZ.out
      simp only [List.length_map] at hO
      have htN : Tch N1 X (wZ.setCell ⟨ob, 2, none⟩ (.slice (some ⟨gZ, 0, none⟩) (pre.length + 1) cZ)) := ((((below_tch HBXA.out : Tch N1 X XA).then_ (below_tch HB8.out)).then_ ((Tch.refl N1 w8).alloc _)).then_ (HTZ.out.wide (fun y e => HVN.out y e))).then_ ((tch_cell (w := wZ) ob 2 (.slice (some ⟨gZ, 0, none⟩) (pre.length + 1) cZ)).wide (fun y e => by have e : y = ob := e; rw [e]; exact hNob))
      have hgl := hO.nodes.own.lt gZ (by simp [Value.ownBlock])
      have hgN : gZ < X.1.size → N1 gZ := fun hl => by
       rcases HATZ.out with h9 | h9
       ·exact HVN.out gZ (by rw [← h9]; simp [Value.ownBlock])
       ·have h8 := HB8.out.size
        simp [Value.ownBlock] at h9
        omega
      have hRN : Rnd N1 X (fun y => N1 y ∨ y = gZ) (wZ.setCell ⟨ob, 2, none⟩ (.slice (some ⟨gZ, 0, none⟩) (pre.length + 1) cZ)) := ⟨htN, fun y hy e => e.elim id (fun e => by subst e; exact hgN hy), fun y e => e.elim (fun e => Nat.lt_of_lt_of_le (HNX.out y e) htN.size) (fun e => by rw [e]; exact hgl.2)⟩
      have hv9 : ∀ g, (Value.slice (some ⟨gZ, 0, none⟩) (pre.length + 1) cZ).ownBlock = some g → (N1 g ∨ g = gZ) := fun g hg => .inr (by simp [Value.ownBlock] at hg; exact hg.symm)
      have hmp : (pre ++ [x]).map (nodeF a u) = pre.map (nodeF a u) ++ [nd.put (keptL u nd.to)] := by rw [List.map_append, List.map_cons, List.map_nil, hnx]
      rw [← hmp] at hO
      have hI : ∃ vn, (∃ xs, OutM V.1.size ob a.sets vi (keptL u a.init) vn ((pre ++ [x]).map (nodeF a u)) xs (wZ.setCell ⟨ob, 2, none⟩ (.slice (some ⟨gZ, 0, none⟩) (pre.length + 1) cZ))) ∧ ∀ g, vn.ownBlock = some g → (N1 g ∨ g = gZ) := ⟨_, ⟨_, hO⟩, hv9⟩
      have hRR := HRND.out.trans hRN
      clear hO hv9 htN hgl hgN
      refine postT_ok (N' := fun y => N1 y ∨ y = gZ) hRN ?_
      exact ⟨hI, hRR, .inl hNob⟩
     case done =>
      rintro D N1 X hD hDN ⟨⟨vn, xs, hout, hvN⟩, hrnd, hNob⟩ hDv
      dsimp only at hout hvN hrnd hNob
      have hMob : ∀ y, (fun y => y = ob) y → V.1.size ≤ y := fun y e => by have e : y = ob := e; omega
      have HBX := dh (HBV9.out.trans (rnd_below hrnd (show V.1.size ≤ W9.1.size by omega) hMob))
      have hzX := HBX.out.size
      have hDl : D < X.1.size := (aI.1 hDv).1
      have hns : (numsW Wd).map (nodeF a u) = (trimU a u).nodes := by
       have e : numsW Wd = (List.range a.nodes.length).filter (fun i => u.getD i false) := by
        rw [HSN.out.nums]
        unfold allL
        rw [markK_len, HNN.out]
        refine List.filter_congr (fun i hi => ?_)
        have hi := List.mem_range.1 hi
        rw [markK_at hi, decide_eq_true hi, Bool.true_and]
       rw [e]; rfl
      rw [hns] at hout
      obtain ⟨Ai', ci', An', cn', hvi, hvn, -⟩ := hout.rd
      obtain ⟨n1, hn1⟩ := xQ (keptL u a.init).length
      obtain ⟨n2, hn2⟩ := xQ (trimU a u).nodes.length
      rw [hn1] at hvi
      rw [hn2] at hvn
      have HN1 := dh hn1
      have HN2 := dh hn2
      have HVI := dh hvi
      rw [hvi, hvn] at hout
      have HOX := dh hout
      have HDV := dh hDv
      obtain ⟨r0, r1, r2⟩ := hout.cells
      have hy : X.1[w.1.size + 1]? = some (.cells #[.int .i64 0, .slice none 0 0, .slice none 0 0] 25 (0, 0)) := (HBX.out.block (w.1.size + 1) (by have := HZ0.out; have := HZV.out; omega)).trans HYV.out
      have y0 : X.cell? ⟨w.1.size + 1, 0, none⟩ = some (.int .i64 0) := cR hy
      have y1 : X.cell? ⟨w.1.size + 1, 1, none⟩ = some (.slice none 0 0) := cR hy
      have y2 : X.cell? ⟨w.1.size + 1, 2, none⟩ = some (.slice none 0 0) := cR hy
      have f0 : X.frozen? ⟨w.1.size + 1, 0, none⟩ = false := frozen_of_row X _ 0 _ _ hy
      have f1 : X.frozen? ⟨w.1.size + 1, 1, none⟩ = false := frozen_of_row X _ 1 _ _ hy
      have f2 : X.frozen? ⟨w.1.size + 1, 2, none⟩ = false := frozen_of_row X _ 2 _ _ hy
      have yl : w.1.size + 1 < X.1.size := (aI.1 hy).1
      have HY := dh hy
      clear hns hn1 hn2 hvi hvn hout hDv hy hrnd hvN hMob
      go_wp2_with fail
      obtain ⟨Y, hY⟩ := xQ (((X.setCell ⟨w.1.size + 1, 0, none⟩ (.int .i64 a.sets)).setCell ⟨w.1.size + 1, 1, none⟩ (.slice Ai' n1 ci')).setCell ⟨w.1.size + 1, 2, none⟩ (.slice An' n2 cn'))
      have hset := set3A (a := .int .i64 a.sets) (b := .slice Ai' n1 ci') (c := .slice An' n2 cn') HY.out rfl
      have htc := tch3A X (w.1.size + 1) (.int .i64 a.sets) (.slice Ai' n1 ci') (.slice An' n2 cn')
      rw [hY] at hset htc ⊢
      clear hY y0 y1 y2 f0 f1 f2 r0 r1 r2
      have hD9 : w.1.size + 1 < D := by have := HZ0.out; have := HZV.out; omega
      have hDY : Y.1[D]? = some (.deferred (some [])) := (htc.block D hDl (fun e => by have e : D = w.1.size + 1 := e; omega)).trans HDV.out
      have hOY := HOX.out.keep htc (fun e => by have e : ob = w.1.size + 1 := e; have := HZ0.out; have := HZV.out; omega) (fun g hg e => by have e : g = w.1.size + 1 := e; exact own_ne_blk HOX.out.nodes.own HY.out (by decide) (by rw [hg, e])) (fun u' n ys ho g hg e => by have e : g = w.1.size + 1 := e; exact own_ne_blk ho HY.out (by decide) (by rw [hg, e]))
      have hbY : Below w.1.size w Y := (HBB.out.trans ((HBV1.out.trans (HBX.out.mono (show w1.1.size ≤ V.1.size by have := HZV.out; omega))).mono (show w.1.size ≤ w1.1.size by have := HZ0.out; omega))).trans (htc.below (show w.1.size ≤ X.1.size by omega) (fun y hy e => by have e : y = w.1.size + 1 := e; omega))
      obtain ⟨Z, hZ⟩ := xQ (Y.putObj D (.deferred none))
      have hOZ : OutM V.1.size ob a.sets (.slice Ai' n1 ci') (keptL u a.init) (.slice An' n2 cn') (trimU a u).nodes xs Z := by
       rw [← hZ]
       exact hOY.grown (B := 0) (grownBy_putObj' Y D (.deferred none)) (fun r e => by cases e; exact ⟨Nat.zero_le _, _, hDY, rfl⟩)
      have hbZ : Below w.1.size w Z := by rw [← hZ]; exact hbY.trans (belowK_b (w := w) lR Y D _ _ (by omega) hDY rfl rfl)
      have hzr : Z.1[w.1.size + 1]? = some (.cells #[.int .i64 a.sets, .slice Ai' n1 ci', .slice An' n2 cn'] 25 (0, 0)) := by rw [← hZ]; exact (World.putObj_heap_other (by omega)).trans hset
      have g0 : Z.cell? ⟨w.1.size + 1, 0, none⟩ = some (.int .i64 a.sets) := cR hzr
      have g1 : Z.cell? ⟨w.1.size + 1, 1, none⟩ = some (.slice Ai' n1 ci') := cR hzr
      have g2 : Z.cell? ⟨w.1.size + 1, 2, none⟩ = some (.slice An' n2 cn') := cR hzr
      refine ⟨by simp, .inl ⟨_, _, rfl, run_takeDeferred hDY, ?_⟩⟩
      rw [hZ]
      have hfin : AutOneS w (trimF a) (.returned (.agg #[.int .i64 a.sets, .slice Ai' n1 ci', .slice An' n2 cn'])) Z := by
       rw [HTF.out]
       obtain ⟨_, _, _, _, e1, e2, hrd⟩ := hOZ.rd
       cases e1
       cases e2
       exact ⟨_, _, _, _, _, _, rfl, hrd, hbZ, hOZ.sep⟩
      refine ⟨_, ?_, hfin⟩
      simp [results, Tryz.results13, go_sem, g0, g1, g2]
     case stop => exact fun _ _ _ _ _ _ _ _ h => h.elim
 ·have hne : ((chkA a) == 0) = false := by rw [beq_eq_false_iff_ne]; exact hck
  have hne2 : ((chkA a) != 0) = true := by rw [bne_iff_ne]; exact hck
  have hne3 : decide (chkA a = 0) = false := decide_eq_false hck
  have HTF : Hid (trimF a = Aut.zero) := dh (by unfold trimF; rw [if_neg hck])
  have y0 : w1.cell? ⟨w.1.size + 1, 0, none⟩ = some (.int .i64 0) := cR hy1
  have y1 : w1.cell? ⟨w.1.size + 1, 1, none⟩ = some (.slice none 0 0) := cR hy1
  have y2 : w1.cell? ⟨w.1.size + 1, 2, none⟩ = some (.slice none 0 0) := cR hy1
  have f0 : w1.frozen? ⟨w.1.size + 1, 0, none⟩ = false := frozen_of_row w1 _ 0 _ _ hy1
  have f1 : w1.frozen? ⟨w.1.size + 1, 1, none⟩ = false := frozen_of_row w1 _ 1 _ _ hy1
  have f2 : w1.frozen? ⟨w.1.size + 1, 2, none⟩ = false := frozen_of_row w1 _ 2 _ _ hy1
  have yl : w.1.size + 1 < w1.1.size := (aI.1 hy1).1
  have HY := dh hy1
  clear hck hx1 hy1
  go_wp2_with fail
  have hset := set3A (a := .int .i64 0) (b := .slice none 0 0) (c := .slice none 0 0) HY.out rfl
  have htc := tch3A w1 (w.1.size + 1) (.int .i64 0) (.slice none 0 0) (.slice none 0 0)
  obtain ⟨Y, hY⟩ := xQ (((w1.setCell ⟨w.1.size + 1, 0, none⟩ (.int .i64 0)).setCell ⟨w.1.size + 1, 1, none⟩ (.slice none 0 0)).setCell ⟨w.1.size + 1, 2, none⟩ (.slice none 0 0))
  rw [hY] at hset htc ⊢
  have hbY : Below w.1.size w Y := HBB.out.trans (htc.below (show w.1.size ≤ w1.1.size by omega) (fun y hy e => by have e : y = w.1.size + 1 := e; omega))
  have g0 : Y.cell? ⟨w.1.size + 1, 0, none⟩ = some (.int .i64 0) := cR hset
  have g1 : Y.cell? ⟨w.1.size + 1, 1, none⟩ = some (.slice none 0 0) := cR hset
  have g2 : Y.cell? ⟨w.1.size + 1, 2, none⟩ = some (.slice none 0 0) := cR hset
  have hfin : AutOneS w (trimF a) (.returned (.agg #[.int .i64 0, .slice none 0 0, .slice none 0 0])) Y := by
   rw [HTF.out]
   exact ⟨none, 0, 0, none, 0, 0, rfl, autRd_nil Y _, hbY, sep_nil Y⟩
  refine ⟨_, ?_, hfin⟩
  simp [results, Tryz.results13, go_sem, g0, g1, g2]
theorem trimP_sep (a : Aut) (Ai : Option Addr) (ni ci : Nat) (An : Option Addr) (nn cn : Nat) (w : World) (B : Nat) (h : AutRd w B a Ai ni ci An nn cn) (hB : B ≤ w.1.size) (hT : TabAt 0 Lib.deBruijn64tab w) (hg : 0 < w.1.size)
  (hnd : ∀ x ∈ a.nodes, x.need < 2 ^ 64 ∧ x.ban < 2 ^ 64) (hinn : ∀ x ∈ a.nodes, x.inn < 2 ^ 64) (KE : Nat) (hr : ∀ x ∈ a.nodes, x.to.length ≤ KE) (hri : a.init.length ≤ 100000000) (hKE : KE ≤ 1000000) :
  Calls Tryz.prog 13 #[.agg #[.int .i64 a.sets, .slice Ai ni ci, .slice An nn cn]] w (AutOneS w (trimF a)) :=
 (callsIn_wide (n := 5)).1 (trim_in 5 lR a Ai ni ci An nn cn w B h hB hT hg hnd hinn KE hr hri hKE)
end Go.Proofs.YtiebpncpdbnelaaGreatDoor
