/- The walks of layer 30 (auto): Trim. -/
import Derived.Test.YtiebpncpdbnelaaDoorMk
import Derived.Test.YtiebpncpdbnelaaDoorZbm
namespace Go.Proofs.YtiebpncpdbnelaaDoor
open Go.RowKit Go.Shelf
attribute [local go_sem] Oper.semAt_some
def markK (u : List Bool) (n k : Nat) : List Bool := (List.range n).map (fun i => decide (i < k) && u.getD i false)
theorem markK_at {u : List Bool} {n k i : Nat} (hi : i < n) : (markK u n k).getD i false = (decide (i < k) && u.getD i false) := by simp [markK, List.getD, hi]
theorem markK_len (u : List Bool) (n k : Nat) : (markK u n k).length = n := by simp [markK]
theorem markK_zero (u : List Bool) (n : Nat) : markK u n 0 = List.replicate n false := by
 refine List.ext_getElem (by simp [markK]) (fun i h1 h2 => ?_)
 simp [markK]
theorem markK_no {u : List Bool} {n k : Nat} (h : u.getD k false = false) : markK u n (k + 1) = markK u n k := by
 unfold markK
 refine List.map_congr_left (fun i _ => ?_)
 by_cases e : i = k
 ·subst e; rw [h]; simp
 ·have : (i < k + 1) = (i < k) := by simp only [eq_iff_iff]; omega
  simp only [this]
theorem markK_yes {u : List Bool} {n k : Nat} (h : u.getD k false = true) : (markK u n k).set k true = markK u n (k + 1) := by
 refine List.ext_getElem (by simp [markK]) (fun i h1 h2 => ?_)
 rw [List.getElem_set]
 split
 ·rename_i e; subst e
  simp only [markK, List.getElem_map, List.getElem_range, h]
  simp
 ·rename_i e
  simp only [markK, List.getElem_map, List.getElem_range]
  have : (i < k + 1) = (i < k) := by simp only [eq_iff_iff]; omega
  simp only [this]
theorem set3A {w : World} {g T : Nat} {a b c : Value} {cs : Array Value} (h : w.heap[g]? = some (.cells cs T (0, 0))) (hc : cs.size = 3) :
  (((w.setCell ⟨g, 0, none⟩ a).setCell ⟨g, 1, none⟩ b).setCell ⟨g, 2, none⟩ c).heap[g]? = some (.cells #[a, b, c] T (0, 0)) := by
 have h1 := heap_setCell_same w g 0 _ _ a h
 have h2 := heap_setCell_same _ g 1 _ _ b h1
 have h3 := heap_setCell_same _ g 2 _ _ c h2
 rw [h3]
 obtain ⟨l⟩ := cs
 match l, hc with
 | [x, y, z], _ => rfl
theorem tch3A (w : World) (g : Nat) (a b c : Value) : Tch (fun k => k = g) w (((w.setCell ⟨g, 0, none⟩ a).setCell ⟨g, 1, none⟩ b).setCell ⟨g, 2, none⟩ c) :=
 Tch.setCell (S := fun k => k = g) (p := ⟨g, 2, none⟩) (Tch.setCell (S := fun k => k = g) (p := ⟨g, 1, none⟩) (Tch.setCell (S := fun k => k = g) (p := ⟨g, 0, none⟩) (Tch.refl _ w) (fun _ => rfl) a) (fun _ => rfl) b) (fun _ => rfl) c
def nodeF (a : Aut) (u : List Bool) (i : Nat) : ANd := (a.at i).put (keptL u (a.at i).to)
theorem box5A {w : World} {g T : Nat} {a b c d e : Value} (h : w.heap[g]? = some (.cells #[a, b, c, d, e] T (0, 0))) :
  w.cell? ⟨g, 0, none⟩ = some a ∧ w.cell? ⟨g, 1, none⟩ = some b ∧ w.cell? ⟨g, 2, none⟩ = some c ∧ w.cell? ⟨g, 3, none⟩ = some d ∧ w.cell? ⟨g, 4, none⟩ = some e := by
 refine ⟨?_, ?_, ?_, ?_, ?_⟩ <;> (rw [cell_of_row _ _ _ _ _ (0, 0) h]; rfl)
set_option maxHeartbeats 8000000 in
set_option maxRecDepth 100000 in
theorem trim_in (m : Nat) (hm : 5 ≤ m) (a : Aut) (Ai : Option Addr) (ni ci : Nat) (An : Option Addr) (nn cn : Nat) (w : World) (B : Nat) (h : AutRd w B a Ai ni ci An nn cn) (hB : B ≤ w.heap.size) (hT : TabAt 0 Lib.deBruijn64tab w) (hg : 0 < w.heap.size)
  (hnd : ∀ x ∈ a.nodes, x.need < 2 ^ 64 ∧ x.ban < 2 ^ 64) (hinn : ∀ x ∈ a.nodes, x.inn < 2 ^ 64) (KE : Nat) (hr : ∀ x ∈ a.nodes, x.to.length ≤ KE) (hri : a.init.length ≤ 100000000) (hKE : KE ≤ 1000000) :
  CallsIn Fence.wide m Tryd.prog 29 #[.agg #[.int .i64 a.sets, .slice Ai ni ci, .slice An nn cn]] w (AutOne w (trimF a)) := by
 have h1m : 1 ≤ m := by omega
 obtain ⟨hb0, x0, y0, z0⟩ := two_new w (.cells #[.int .i64 a.sets, .slice Ai ni ci, .slice An nn cn] 25) (.cells #[.int .i64 0, .slice none 0 0, .slice none 0 0] 25)
 obtain ⟨W0, hW0⟩ : ∃ W0, (w.alloc (.cells #[.int .i64 a.sets, .slice Ai ni ci, .slice An nn cn] 25)).alloc (.cells #[.int .i64 0, .slice none 0 0, .slice none 0 0] 25) = W0 := ⟨_, rfl⟩
 rw [hW0] at hb0 x0 y0 z0
 have HR0 := Lib.hid (h.below hb0 hB)
 have HC0 := Lib.hid (autoCheck_any a Ai ni ci An nn cn W0 B HR0.out (by omega) hri (fun x hx => by have := hr x hx; omega))
 have HW0 := Lib.hid hW0
 have HB0 := Lib.hid hb0
 have HX0 := Lib.hid x0
 have HY0 := Lib.hid y0
 have HZ0 := Lib.hid z0
 have HG := Lib.hid hg
 have HTB := Lib.hid hT
 clear hW0 hb0 x0 y0 z0 h hT hg
 refine callsIn_of_wp_marks Tryd.func29 rfl trivial ?_ rfl
 refine wpIn_wide.2 ?_
 simp only [Tryd.ntmps29, List.size_toArray, List.length_cons, List.length_nil, Nat.reduceAdd, Nat.reduceSub, Array.replicate_succ, Array.replicate_zero, List.push_toArray, List.append_toArray, List.nil_append, List.cons_append]
 go_upto_region 1 with fail
 rw [HW0.out]
 have q0 : W0.cell? ⟨w.heap.size, 0, none⟩ = some (.int .i64 a.sets) := by rw [cell_of_row _ _ _ _ _ (0, 0) HX0.out]; rfl
 have q1 : W0.cell? ⟨w.heap.size, 1, none⟩ = some (.slice Ai ni ci) := by rw [cell_of_row _ _ _ _ _ (0, 0) HX0.out]; rfl
 have q2 : W0.cell? ⟨w.heap.size, 2, none⟩ = some (.slice An nn cn) := by rw [cell_of_row _ _ _ _ _ (0, 0) HX0.out]; rfl
 go_wp2_with fail
 refine HC0.out.mono ?_
 rintro e w1 ⟨rfl, hb1⟩
 have hx1 : w1.heap[w.heap.size]? = some _ := (hb1.block w.heap.size (by have := HZ0.out; omega)).trans HX0.out
 have hy1 : w1.heap[w.heap.size + 1]? = some _ := (hb1.block (w.heap.size + 1) (by have := HZ0.out; omega)).trans HY0.out
 have hz1 := hb1.size
 have HB1 := Lib.hid hb1
 have HBB := Lib.hid (HB0.out.trans (HB1.out.mono (show w.heap.size ≤ W0.heap.size by have := HZ0.out; omega)))
 clear hb1 q0 q1 q2
 by_cases hck : chkA a = 0
 ·have HCK := Lib.hid hck
  obtain ⟨hn256, ⟨hs0, hs16⟩, hA, -⟩ := chk_iff.1 hck
  have HOK := Lib.hid hA
  obtain ⟨s, hss⟩ : ∃ s : Nat, a.sets = s := ⟨a.sets.toNat, by omega⟩
  have HX1 := Lib.hid hx1
  have HY1 := Lib.hid hy1
  have hx1' := hx1
  rw [hss] at hx1'
  have q0 : w1.cell? ⟨w.heap.size, 0, none⟩ = some (.int .i64 (s : Int)) := by rw [cell_of_row _ _ _ _ _ (0, 0) hx1']; rfl
  have q1 : w1.cell? ⟨w.heap.size, 1, none⟩ = some (.slice Ai ni ci) := by rw [cell_of_row _ _ _ _ _ (0, 0) hx1']; rfl
  have q2 : w1.cell? ⟨w.heap.size, 2, none⟩ = some (.slice An nn cn) := by rw [cell_of_row _ _ _ _ _ (0, 0) hx1']; rfl
  have HNN := Lib.hid HR0.out.enn
  have hnn : nn ≤ 256 := by rw [HNN.out]; exact hn256
  have HR1 := Lib.hid (HR0.out.below HB1.out (show B ≤ W0.heap.size by have := HZ0.out; omega))
  have HOV := Lib.hid (over_any a s Ai ni ci An nn cn w1 B HR1.out (by have := HZ0.out; omega) HOK.out (by omega) hnd hri (by omega) (fun x hx => by have := hr x hx; omega))
  have HSS := Lib.hid hss
  rw [hck]
  clear hx1 hx1' hy1 hss hck hn256
  go_wp2_with fail
  refine HOV.out.mono ?_
  rintro e w3 hp
  obtain ⟨pi, qi, ri, pe, qe, re, pl, ql, rl, pc, qc, rc, rfl, hpl, hb3⟩ := hp.open_
  have HQI := Lib.hid hpl.eni
  have HQE : Hid (qe = nn) := Lib.hid (by have := hpl.ene; rw [openE_len] at this; rw [this, HNN.out])
  have HQL : Hid (ql = nn) := Lib.hid (by have := hpl.enl; rw [this, HNN.out]; simp [needsA])
  have HPL := Lib.hid hpl
  have HB3 := Lib.hid hb3
  have hz3 := hb3.size
  clear hp hpl hb3 q0 q1 q2
  obtain ⟨W3, hW3⟩ : ∃ X, w3.alloc (.cells #[.slice pi qi ri, .slice pe qe re, .slice pl ql rl, .slice pc qc rc, .int .u64 (allB s : Int)] 74) = X := ⟨_, rfl⟩
  have HW3 := Lib.hid hW3
  have hbW3 : Below w3.heap.size w3 W3 := by rw [← hW3]; exact (Below.refl _ _).alloc (Nat.le_refl _) _
  have hzW3 : W3.heap.size = w3.heap.size + 1 := by rw [← hW3]; simp
  have hp3 : W3.heap[w3.heap.size]? = some (.cells #[.slice pi qi ri, .slice pe qe re, .slice pl ql rl, .slice pc qc rc, .int .u64 (allB s : Int)] 74 (0, 0)) := by rw [← hW3]; exact heap_alloc_new w3 _
  have HBW3 := Lib.hid (HB3.out.trans (hbW3.mono hz3))
  have HX3 := Lib.hid ((HBW3.out.block w.heap.size (by have := HZ0.out; omega)).trans HX1.out)
  have HPP3 := Lib.hid hp3
  have HPL3 := Lib.hid (HPL.out.below hbW3 (Nat.le_refl _))
  have q1 : W3.cell? ⟨w.heap.size, 1, none⟩ = some (.slice Ai ni ci) := by rw [cell_of_row _ _ _ _ _ (0, 0) HX3.out]; rfl
  have q2 : W3.cell? ⟨w.heap.size, 2, none⟩ = some (.slice An nn cn) := by rw [cell_of_row _ _ _ _ _ (0, 0) HX3.out]; rfl
  obtain ⟨k, hk⟩ : ∃ k, k = (nn + 63) / 64 := ⟨_, rfl⟩
  have HNW := Lib.hid (bnew_any nn k W3 (by omega) hk)
  have HKK := Lib.hid hk
  clear hW3 hbW3 hp3 hk
  go_upto_region 4 with fail
  rw [HW3.out]
  go_wp2_with fail
  refine HNW.out.mono ?_
  rintro e w' ⟨rfl, rfl⟩
  obtain ⟨W4, hW4⟩ : ∃ X, ((W3.alloc (.cells (madeCells #[.int .u64 0] k) 41)).alloc (.cells #[.int .i64 (nn : Int), .slice (some ⟨w3.heap.size + 1, 0, none⟩) k k] 107)).alloc (.cells #[.pointer (some ⟨w3.heap.size + 1 + 1, 0, none⟩)] 77) = X := ⟨_, rfl⟩
  have HW4 := Lib.hid hW4
  have hbW4 : Below W3.heap.size W3 W4 := by rw [← hW4]; exact (((Below.refl _ _).alloc (Nat.le_refl _) _).alloc (by simp) _).alloc (by simp; omega) _
  have hz4 : W4.heap.size = w3.heap.size + 4 := by rw [← hW4]; simp; omega
  have hX4 : BSet (w3.heap.size + 1 + 1) (w3.heap.size + 1) nn (List.replicate k 0) W4 := by
   rw [← hW4]
   have hsz : (W3.alloc (.cells (madeCells #[.int .u64 0] k) 41)).heap.size = w3.heap.size + 1 + 1 := by simp; omega
   have h1 := own_made (w := W3) (base := 0) (e := 41) (v := .int .u64 0) (n := k) (Nat.zero_le _) (by have := HKK.out; unfold maxLen; omega)
   rw [hzW3] at h1
   refine ⟨?_, ?_, by rw [List.length_replicate]; exact HKK.out, fun x hx => by rw [List.eq_of_mem_replicate hx]; decide, by omega⟩
   ·rw [Below.heap_alloc _ _ _ (by rw [World.size_alloc, hsz]; omega), heap_new hsz.symm, List.length_replicate]
   ·have e : wcells (List.replicate k 0) = List.replicate k (.int .u64 0) := by simp [wcells]
    rw [List.length_replicate, e]
    exact ((h1.alloc _).alloc _)
  have hbx1 : W4.cell? ⟨w3.heap.size + 1 + 1 + 1, 0, none⟩ = some (.pointer (some ⟨w3.heap.size + 1 + 1, 0, none⟩)) := by
   rw [← hW4]
   have := (Boxed.new ((W3.alloc (.cells (madeCells #[.int .u64 0] k) 41)).alloc (.cells #[.int .i64 (nn : Int), .slice (some ⟨w3.heap.size + 1, 0, none⟩) k k] 107)) 77 (.pointer (some ⟨w3.heap.size + 1 + 1, 0, none⟩))).cell
   rw [World.size_alloc, World.size_alloc, hzW3] at this
   exact this
  have HX4 := Lib.hid hX4
  have HBX1 := Lib.hid hbx1
  have HBW4 := Lib.hid (HBW3.out.trans (hbW4.mono (show w1.heap.size ≤ W3.heap.size by omega)))
  have hpp4 : W4.heap[w3.heap.size]? = some _ := (hbW4.block w3.heap.size (by omega)).trans HPP3.out
  have HPP4 := Lib.hid hpp4
  have HPL4 := Lib.hid (HPL3.out.below hbW4 (by omega))
  have hqk : qe * KE ≤ 1000000000 := by
   have : qe * KE ≤ 256 * KE := Nat.mul_le_mul_right _ (by have := HQE.out; omega)
   omega
  have hqil : qi ≤ 100000000 := by
   rw [HQI.out]
   exact Nat.le_trans (List.length_filter_le _ _) hri
  have HRE : Hid (∀ W', Below W4.heap.size W4 W' → Calls Tryd.prog 59 #[.agg #[.slice pi qi ri, .slice pe qe re, .slice pl ql rl], .slice pi qi ri] W' (NewRow W' 4 1 qe ((reachG qe (openE a) (openI a)).map .bool) False)) :=
   Lib.hid (fun W' hb => reachP_any pi pe pl qi ri qe re ql rl ⟨openI a, openE a, _⟩ (openI a) pi qi ri W' W'.heap.size ((HPL4.out.below hb (by omega)).g.up (by have := hb.size; omega)) (((HPL4.out.below hb (by omega)).g.hi).up (by have := hb.size; omega)) HQI.out (Nat.le_refl _) (by have := HQE.out; omega) (by omega) (fun r hr' => by have := open_row hr r hr'; omega))
  have HLA : Hid (∀ W', Below W4.heap.size W4 W' → Calls Tryd.prog 60 #[.agg #[.slice pi qi ri, .slice pe qe re, .slice pl ql rl, .slice pc qc rc, .int .u64 (allB s : Int)]] W' (NewRow W' 4 1 qe (bcells (lastR (openE a) (insA a) s)) False)) :=
   Lib.hid (fun W' hb => lasting_any (openI a) (openE a) _ (insA a) s pi qi ri pe qe re pl ql rl pc qc rc W'.heap.size W' ((HPL4.out.below hb (by omega)).up (by have := hb.size; omega)) (Nat.le_refl _) (open_nd HOK.out) (by have := HQE.out; omega) KE (open_row hr) hqk hKE (by rw [insA_len, openE_len]) (ins_lt hinn) (by have := HSS.out; omega) (by omega) (by have := HQL.out; omega))
  go_upto_region 5 with fail
  obtain ⟨p0, p1, p2, p3, p4⟩ := box5A hpp4
  clear hW4 hbW4 hX4 hbx1 hpp4
  refine wp_only ?_
  refine wp_region_held_drew (S := fun w' => w'.cell? ⟨w3.heap.size, 0, none⟩ = some (.slice pi qi ri) ∧ w'.cell? ⟨w3.heap.size, 1, none⟩ = some (.slice pe qe re) ∧ w'.cell? ⟨w3.heap.size, 2, none⟩ = some (.slice pl ql rl) ∧ w'.cell? ⟨w3.heap.size, 3, none⟩ = some (.slice pc qc rc) ∧ w'.cell? ⟨w3.heap.size, 4, none⟩ = some (.int .u64 (allB s : Int))) (by kernel_rfl) ⟨p0, p1, p2, p3, p4⟩ (fun hS => ?_)
  refine tkH 0 rfl hS ?_
  refine tkH 1 rfl hS ?_
  refine tkH 2 rfl hS ?_
  refine tkH 3 rfl hS ?_
  refine tkH 4 rfl hS ?_
  refine tkH 6 rfl hS ?_
  refine wpAnyH_oneD (i := 5) rfl (by kernel_rfl) (fun K hK => ?_)
  go_simp
  refine (HRE.out _ (Below.drew (Below.refl _ _))).mono ?_
  rintro e w5 ⟨v5, rfl, ho5, hb5', -⟩
  have hb5 : Below W4.heap.size W4 w5 := below_undrew hb5'
  obtain ⟨A5, c5, rfl, -⟩ := own_sl ho5
  have HB5 := Lib.hid hb5
  have HO5 := Lib.hid ho5
  have hp5 : w5.heap[w3.heap.size]? = some _ := (hb5.block w3.heap.size (by omega)).trans HPP4.out
  obtain ⟨k0, k1, k2, k3, k4⟩ := box5A hp5
  clear hb5 hb5' ho5
  dsimp only
  refine hK.out _ _ ⟨k0, k1, k2, k3, k4⟩ (fun hS => ?_)
  clear hK
  try simp only [Act.put, List.setIfInBounds_toArray, List.set_cons_zero, List.set_cons_succ]
  refine wpAnyH_oneD (i := 7) rfl (by kernel_rfl) (fun K hK => ?_)
  go_simp
  refine (HLA.out _ HB5.out).mono ?_
  rintro e w6 ⟨v6, rfl, ho6, hb6, -⟩
  obtain ⟨A6, c6, rfl, -⟩ := own_sl ho6
  have HB6 := Lib.hid hb6
  have HO6 := Lib.hid ho6
  have hp6 : w6.heap[w3.heap.size]? = some _ := (hb6.block w3.heap.size (by have := HB5.out.size; omega)).trans hp5
  obtain ⟨l0, l1, l2, l3, l4⟩ := box5A hp6
  clear hb6 ho6
  dsimp only
  refine hK.out _ _ ⟨l0, l1, l2, l3, l4⟩ (fun hS => ?_)
  clear hK
  try simp only [Act.put, List.setIfInBounds_toArray, List.set_cons_zero, List.set_cons_succ]
  refine tkH 8 rfl hS ?_
  refine tkH 9 rfl hS ?_
  refine wpAnyH_done (by kernel_rfl) ?_ _
  go_upto_region 6 with fail
  have HB6W := Lib.hid (HB5.out.trans (HB6.out.mono HB5.out.size))
  have hz6 := HB6W.out.size
  have hx6 : w6.heap[w.heap.size]? = some _ := ((HBW4.out.trans (HB6W.out.mono (show w1.heap.size ≤ W4.heap.size by omega))).block w.heap.size (by have := HZ0.out; omega)).trans HX1.out
  have q0 : w6.cell? ⟨w.heap.size, 0, none⟩ = some (.int .i64 a.sets) := by rw [cell_of_row _ _ _ _ _ (0, 0) hx6]; rfl
  have q1 : w6.cell? ⟨w.heap.size, 1, none⟩ = some (.slice Ai ni ci) := by rw [cell_of_row _ _ _ _ _ (0, 0) hx6]; rfl
  have q2 : w6.cell? ⟨w.heap.size, 2, none⟩ = some (.slice An nn cn) := by rw [cell_of_row _ _ _ _ _ (0, 0) hx6]; rfl
  have hmk := run_make_row' (P := Tryd.prog) 22 3 (.int .i64 0) 8 Tryd.underlying22 infoInt rfl .i64 .i64 nn (by omega) (by omega)
  obtain ⟨W7, hW7⟩ : ∃ X, (w6.alloc (.cells (madeCells #[.int .i64 0] nn) 3)).alloc (.cells #[.slice (some ⟨w6.heap.size, 0, none⟩) nn nn] 22) = X := ⟨_, rfl⟩
  have hbW7 : Below w6.heap.size w6 W7 := by rw [← hW7]; exact ((Below.refl _ _).alloc (Nat.le_refl _) _).alloc (by simp) _
  have hz7 : W7.heap.size = w6.heap.size + 2 := by rw [← hW7]; simp
  have hrow7 : W7.ownsRow w6.heap.size 3 1 (.slice (some ⟨w6.heap.size, 0, none⟩) nn nn) nn (icells (List.replicate nn 0)) := by
   have h1 := own_made (w := w6) (base := w6.heap.size) (e := 3) (v := .int .i64 0) (n := nn) (Nat.le_refl _) (by unfold maxLen; omega)
   have h2 := h1.alloc (.cells #[.slice (some ⟨w6.heap.size, 0, none⟩) nn nn] 22)
   rw [hW7] at h2
   have e : icells (List.replicate nn 0) = List.replicate nn (.int .i64 0) := by simp [icells]
   rw [e]
   exact h2
  have hbx7 : W7.cell? ⟨w6.heap.size + 1, 0, none⟩ = some (.slice (some ⟨w6.heap.size, 0, none⟩) nn nn) := by
   rw [← hW7]
   have := (Boxed.new (w6.alloc (.cells (madeCells #[.int .i64 0] nn) 3)) 22 (.slice (some ⟨w6.heap.size, 0, none⟩) nn nn)).cell
   rw [World.size_alloc] at this
   exact this
  have hx7 : W7.heap[w.heap.size]? = some _ := (hbW7.block w.heap.size (by have := HZ0.out; omega)).trans hx6
  have HX7 := Lib.hid hx7
  have HROW7 := Lib.hid hrow7
  have HBX7 := Lib.hid hbx7
  have HB46 := Lib.hid (HB6W.out.trans (hbW7.mono hz6))
  have HX7B := Lib.hid (HX4.out.below HB46.out)
  have HO5W := Lib.hid (own_below (own_below HO5.out HB6.out) hbW7)
  have HO6W := Lib.hid (own_below HO6.out hbW7)
  have HU : Hid (∀ i, i < nn → (useL a).getD i false = ((reachG qe (openE a) (openI a)).getD i false && (lastR (openE a) (insA a) s).getD i false)) := Lib.hid (fun i hi => by
   have hia : i < a.nodes.length := by rw [← HNN.out]; exact hi
   have hqe : qe = a.nodes.length := by rw [HQE.out, HNN.out]
   rw [Bool.eq_iff_iff, use_iff hia, Bool.and_eq_true]
   unfold UseP
   have e1 := reachG_iff (n := a.nodes.length) (E := openE a) (from_ := openI a) (i := (i : Int)) (isNd_iff.2 ⟨by omega, by omega⟩)
   rw [Int.toNat_natCast] at e1
   have e2 : a.sets.toNat = s := by have := HSS.out; omega
   rw [hqe, e1, last_iff (by rw [openE_len]; exact hia), e2])
  clear q0 q1 hx7 hrow7 hbx7 hx6
  have HTF : Hid (trimF a = trimU a (useL a)) := Lib.hid (by unfold trimF; rw [if_pos HCK.out]; rfl)
  generalize useL a = u at *
  go_upto_region 8 with fail
  clear q2 hmk hW7
  have q2 : W7.cell? ⟨w.heap.size, 2, none⟩ = some (.slice An nn cn) := by rw [cell_of_row _ _ _ _ _ (0, 0) HX7.out]; rfl
  go_wp2_with fail
  go_loopw [39, 8] (fun i o wr => ∃ (k : Nat) (Wd : List Nat) (atL : List Int), k ≤ nn ∧ i = .int .i64 (k : Int) ∧ o = .int .i64 ((numC u k : Nat) : Int) ∧ Hid (BSet (w3.heap.size + 1 + 1) (w3.heap.size + 1) nn Wd wr) ∧ Hid (SameW nn Wd (markK u nn k)) ∧ Hid (wr.ownsRow w6.heap.size 3 1 (.slice (some ⟨w6.heap.size, 0, none⟩) nn nn) nn (icells atL)) ∧ Hid (∀ i, i < k → u.getD i false = true → atL.getD i 0 = ((numC u i : Nat) : Int)) ∧ Hid (Tch (fun j => j = w3.heap.size + 1 ∨ j = w6.heap.size) W7 wr)) (fun i _ _ => nn - (intOf i).toNat)
  case atStart => exact ⟨0, List.replicate k 0, List.replicate nn 0, by omega, rfl, rfl, HX7B, Lib.hid (by rw [markK_zero, HKK.out]; exact SameW.start nn), HROW7, Lib.hid (fun i hi => absurd hi (Nat.not_lt_zero _)), Lib.hid (Tch.refl _ _)⟩
  case round =>
   obtain ⟨j, Wd, atL, hj, rfl, rfl, HXr, HSr, HRr, HAr, HTr⟩ := hrel
   have hzr := HTr.out.size
   by_cases hlt : j < nn
   ·have wj : IntKind.i64.wrap ((j : Int) + 1) = (j : Int) + 1 := by rw [IntKind.wrap_i64]; omega
    have hle : numC u j ≤ j := numC_le j
    have wn : IntKind.i64.wrap (((numC u j : Nat) : Int) + 1) = ((numC u j : Nat) : Int) + 1 := by rw [IntKind.wrap_i64]; omega
    have hj0 : (0 : Int) ≤ (j : Int) := by omega
    have hj1 : (j : Int) < (nn : Int) := by omega
    have hjq : (j : Int) < (qe : Int) := by have := HQE.out; omega
    have hb1 : wr.cell? ⟨w3.heap.size + 1 + 1 + 1, 0, none⟩ = some (.pointer (some ⟨w3.heap.size + 1 + 1, 0, none⟩)) := (HTr.out.cell (p := ⟨w3.heap.size + 1 + 1 + 1, 0, none⟩) (show w3.heap.size + 1 + 1 + 1 < W7.heap.size by omega) (fun e => by have e : w3.heap.size + 1 + 1 + 1 = w3.heap.size + 1 ∨ w3.heap.size + 1 + 1 + 1 = w6.heap.size := e; omega)).trans ((HB46.out.cell (p := ⟨w3.heap.size + 1 + 1 + 1, 0, none⟩) (show w3.heap.size + 1 + 1 + 1 < W4.heap.size by omega)).trans HBX1.out)
    have hb2 : wr.cell? ⟨w6.heap.size + 1, 0, none⟩ = some (.slice (some ⟨w6.heap.size, 0, none⟩) nn nn) := (HTr.out.cell (p := ⟨w6.heap.size + 1, 0, none⟩) (show w6.heap.size + 1 < W7.heap.size by omega) (fun e => by have e : w6.heap.size + 1 = w3.heap.size + 1 ∨ w6.heap.size + 1 = w6.heap.size := e; omega)).trans HBX7.out
    have h5 := own_tch HO5W.out HTr.out (fun g hg e => by have h1 := HO5.out.lt g hg; have h2 : W4.heap.size ≤ g := h1.1; have := HB6.out.size; omega)
    have h6 := own_tch HO6W.out HTr.out (fun g hg e => by have h1 := HO6.out.lt g hg; have := HB5.out.size; omega)
    obtain ⟨A', c', hf, hs5⟩ := own_sl h5
    cases hf
    obtain ⟨A', c', hf, hs6⟩ := own_sl h6
    cases hf
    have hc5 := hs5.cap
    have hm5 := hs5.max
    have hc6 := hs6.cap
    have hm6 := hs6.max
    unfold maxLen at hm5 hm6
    have hl5 := hs5.len
    have hl6 := hs6.len
    have e5 : ((reachG qe (openE a) (openI a)).map Value.bool)[j]? = some (.bool ((reachG qe (openE a) (openI a)).getD j false)) := by
     rw [List.getElem?_map, List.getD_eq_getElem?_getD, List.getElem?_eq_getElem (by simp at hl5; omega)]; rfl
    have e6 : (bcells (lastR (openE a) (insA a) s))[j]? = some (.bool ((lastR (openE a) (insA a) s).getD j false)) := by
     rw [bcells, List.getElem?_map, List.getD_eq_getElem?_getD, List.getElem?_eq_getElem (by rw [bcells_len] at hl6; omega)]; rfl
    obtain ⟨b5, o5, rfl, hbl5, d5⟩ := hs5.rd.at_ e5
    obtain ⟨b6, o6, rfl, hbl6, d6⟩ := hs6.rd.at_ e6
    have hu := HU.out j hlt
    generalize (reachG qe (openE a) (openI a)).getD j false = r5 at *
    generalize (lastR (openE a) (insA a) s).getD j false = r6 at *
    have HUJ := Lib.hid hu
    clear e5 e6 hs5 hs6 h5 h6 hl5 hl6 hu
    cases r5
    ·have hno : u.getD j false = false := by rw [HUJ.out]; rfl
     have HN := Lib.hid (show numC u (j + 1) = numC u j by rw [numC_succ, hno]; simp)
     have HMK := Lib.hid (markK_no (n := nn) hno)
     clear hno
     go_wp2_with fail
     go_roundw
     case rel => exact ⟨j + 1, Wd, atL, by omega, congrArg (Value.int .i64) (by omega), by rw [HN.out], HXr, Lib.hid (by rw [HMK.out]; exact HSr.out), HRr, Lib.hid (fun i hi hui => by
      by_cases e : i = j
      ·subst e; rw [HUJ.out] at hui; cases hui
      ·exact HAr.out i (by omega) hui), HTr⟩
     case measure => simp [intOf]; omega
    ·cases r6
     ·have hno : u.getD j false = false := by rw [HUJ.out]; rfl
      have HN := Lib.hid (show numC u (j + 1) = numC u j by rw [numC_succ, hno]; simp)
      have HMK := Lib.hid (markK_no (n := nn) hno)
      clear hno
      go_wp2_with fail
      go_roundw
      case rel => exact ⟨j + 1, Wd, atL, by omega, congrArg (Value.int .i64) (by omega), by rw [HN.out], HXr, Lib.hid (by rw [HMK.out]; exact HSr.out), HRr, Lib.hid (fun i hi hui => by
       by_cases e : i = j
       ·subst e; rw [HUJ.out] at hui; cases hui
       ·exact HAr.out i (by omega) hui), HTr⟩
      case measure => simp [intOf]; omega
     ·have hyes : u.getD j false = true := by rw [HUJ.out]; rfl
      have HN := Lib.hid (show numC u (j + 1) = numC u j + 1 by rw [numC_succ, hyes]; simp)
      have HMK := Lib.hid (markK_yes (n := nn) hyes)
      have HPUT := Lib.hid (bput_any (w3.heap.size + 1 + 1) (w3.heap.size + 1) nn Wd j wr HXr.out hlt)
      clear hyes
      go_wp2_with fail
      refine HPUT.out.mono ?_
      rintro e wp ⟨rfl, hXp, htp⟩
      have hne7 : w6.heap.size ≠ w3.heap.size + 1 := by omega
      have hrp := own_tch HRr.out htp (fun g hg e => by simp [Value.ownBlock] at hg; omega)
      have hal : atL.length = nn := by have := HRr.out.1; rw [icells_len] at this; omega
      have kU : wp.cell? ⟨w6.heap.size, j, none⟩ = some (.int .i64 (atL.getD j 0)) := by
       rw [hrp.cellAt j (by omega)]
       simp [icells, List.getD, show j < atL.length by omega]
      have fU := hrp.frozenAt j
      have zU := (hrp.lt w6.heap.size rfl).2
      have hb2p : wp.cell? ⟨w6.heap.size + 1, 0, none⟩ = some (.slice (some ⟨w6.heap.size, 0, none⟩) nn nn) := (htp.cell (p := ⟨w6.heap.size + 1, 0, none⟩) (show w6.heap.size + 1 < wr.heap.size by omega) (fun e => by have e : w6.heap.size + 1 = w3.heap.size + 1 := e; omega)).trans hb2
      have HXP := Lib.hid hXp
      have HRP := Lib.hid hrp
      have HTP := Lib.hid htp
      clear hXp htp hrp hb1 hb2 d5 d6
      go_wp2_with fail
      go_roundw
      case rel => exact ⟨j + 1, putW Wd j, atL.set j ((numC u j : Nat) : Int), by omega, congrArg (Value.int .i64) (by omega), by rw [HN.out]; exact congrArg (Value.int .i64) (by omega), Lib.hid (HXP.out.tch (tch_cell (w := wp) w6.heap.size j (.int .i64 ((numC u j : Nat) : Int))) (fun e => by omega) (fun e => by omega)), Lib.hid (by rw [← HMK.out]; exact HSr.out.put hlt), Lib.hid (by have := (HRP.out.stored j (.int .i64 ((numC u j : Nat) : Int))).1; rw [icells, List.map_set]; exact this), Lib.hid (fun i hi hui => by
       by_cases e : i = j
       ·subst e; rw [List.getD_eq_getElem?_getD, List.getElem?_set_self (by omega)]; rfl
       ·rw [List.getD_eq_getElem?_getD, List.getElem?_set_ne (by omega), ← List.getD_eq_getElem?_getD]; exact HAr.out i (by omega) hui), Lib.hid ((HTr.out.then_ (HTP.out.wide (fun x e => .inl e))).then_ ((tch_cell (w := wp) w6.heap.size j (.int .i64 ((numC u j : Nat) : Int))).wide (fun x e => .inr e)))⟩
      case measure => simp [intOf]; omega
   ·have hjn : j = nn := by omega
    have HSN : Hid (SameW nn Wd (markK u nn nn)) := Lib.hid (by have := HSr.out; rwa [hjn] at this)
    have HAN : Hid (∀ i, i < nn → u.getD i false = true → atL.getD i 0 = ((numC u i : Nat) : Int)) := Lib.hid (by have := HAr.out; rwa [hjn] at this)
    clear HSr HAr q2 hjn
    obtain ⟨V, hV⟩ : ∃ X, wr.alloc (.cells #[.func (.func 62) #[] #[.pointer (some ⟨w3.heap.size + 1 + 1 + 1, 0, none⟩), .pointer (some ⟨w6.heap.size + 1, 0, none⟩)]] 56) = X := ⟨_, rfl⟩
    have hbV : Below wr.heap.size wr V := by rw [← hV]; exact (Below.refl _ _).alloc (Nat.le_refl _) _
    have hzV : V.heap.size = wr.heap.size + 1 := by rw [← hV]; simp
    have hcV : V.cell? ⟨wr.heap.size, 0, none⟩ = some (.func (.func 62) #[] #[.pointer (some ⟨w3.heap.size + 1 + 1 + 1, 0, none⟩), .pointer (some ⟨w6.heap.size + 1, 0, none⟩)]) := by rw [← hV]; exact (Boxed.new wr _ _).cell
    have HCV := Lib.hid hcV
    have HBV1 : Hid (Below w1.heap.size w1 V) := Lib.hid (((HBW4.out.trans (HB46.out.mono (show w1.heap.size ≤ W4.heap.size by omega))).trans (HTr.out.below (show w1.heap.size ≤ W7.heap.size by omega) (fun x hx e => by have e : x = w3.heap.size + 1 ∨ x = w6.heap.size := e; omega))).trans (hbV.mono (show w1.heap.size ≤ wr.heap.size by omega)))
    have HRV := Lib.hid (HR1.out.below HBV1.out (by have := HZ0.out; omega))
    have HXV := Lib.hid ((HBV1.out.block w.heap.size (by have := HZ0.out; omega)).trans HX1.out)
    have HYV := Lib.hid ((HBV1.out.block (w.heap.size + 1) (by have := HZ0.out; omega)).trans HY1.out)
    have hb1 : V.cell? ⟨w3.heap.size + 1 + 1 + 1, 0, none⟩ = some (.pointer (some ⟨w3.heap.size + 1 + 1, 0, none⟩)) := (hbV.cell (p := ⟨w3.heap.size + 1 + 1 + 1, 0, none⟩) (show w3.heap.size + 1 + 1 + 1 < wr.heap.size by omega)).trans ((HTr.out.cell (p := ⟨w3.heap.size + 1 + 1 + 1, 0, none⟩) (show w3.heap.size + 1 + 1 + 1 < W7.heap.size by omega) (fun e => by have e : w3.heap.size + 1 + 1 + 1 = w3.heap.size + 1 ∨ w3.heap.size + 1 + 1 + 1 = w6.heap.size := e; omega)).trans ((HB46.out.cell (p := ⟨w3.heap.size + 1 + 1 + 1, 0, none⟩) (show w3.heap.size + 1 + 1 + 1 < W4.heap.size by omega)).trans HBX1.out))
    have hb2 : V.cell? ⟨w6.heap.size + 1, 0, none⟩ = some (.slice (some ⟨w6.heap.size, 0, none⟩) nn nn) := (hbV.cell (p := ⟨w6.heap.size + 1, 0, none⟩) (show w6.heap.size + 1 < wr.heap.size by omega)).trans ((HTr.out.cell (p := ⟨w6.heap.size + 1, 0, none⟩) (show w6.heap.size + 1 < W7.heap.size by omega) (fun e => by have e : w6.heap.size + 1 = w3.heap.size + 1 ∨ w6.heap.size + 1 = w6.heap.size := e; omega)).trans HBX7.out)
    have hXV := HXr.out.below hbV
    have hRowV := own_below HRr.out hbV
    obtain ⟨A', c', hf, hsV⟩ := own_sl hRowV
    cases hf
    have HXSV := Lib.hid hXV
    have HB1V := Lib.hid hb1
    have HLF : Hid (∀ (W' : World) (l : List Int) (A : Option Addr) (n c : Nat), Below V.heap.size V W' → Sl W' W'.heap.size 1 A n c (icells l) → (∀ t ∈ l, isNd nn t = true) → l.length ≤ 100000000 → Calls Tryd.prog 62 #[.slice A n c, .pointer (some ⟨w3.heap.size + 1 + 1 + 1, 0, none⟩), .pointer (some ⟨w6.heap.size + 1, 0, none⟩)] W' (IntsPost W' (keptL u l))) :=
     Lib.hid (fun W' l A n c hb hs hl hll => left30_any u l atL A n c (w3.heap.size + 1 + 1 + 1) (w6.heap.size + 1) (w3.heap.size + 1 + 1) (w3.heap.size + 1) nn Wd (some ⟨w6.heap.size, 0, none⟩) nn W' W'.heap.size
      ((hb.cell (p := ⟨w3.heap.size + 1 + 1 + 1, 0, none⟩) (show w3.heap.size + 1 + 1 + 1 < V.heap.size by omega)).trans hb1) (by have := hb.size; omega) ((hb.cell (p := ⟨w6.heap.size + 1, 0, none⟩) (show w6.heap.size + 1 < V.heap.size by omega)).trans hb2) (by have := hb.size; omega)
      (hXV.below hb) (fun i hi => by rw [HSN.out.bit i, markK_at hi]; simp [hi]) HAN.out ((hsV.below hb (Nat.le_refl _)).up hb.size) hs (Nat.le_refl _) hl hll)
    go_upto_region 17 with fail
    have HZV := Lib.hid hzV
    clear hV hbV hb1 hb2 hXV hRowV hsV hzV
    obtain ⟨x0, x1, x2⟩ : V.cell? ⟨w.heap.size, 0, none⟩ = some (.int .i64 a.sets) ∧ V.cell? ⟨w.heap.size, 1, none⟩ = some (.slice Ai ni ci) ∧ V.cell? ⟨w.heap.size, 2, none⟩ = some (.slice An nn cn) := by
     refine ⟨?_, ?_, ?_⟩ <;> (rw [cell_of_row _ _ _ _ _ (0, 0) HXV.out]; rfl)
    go_cut [11] from 12 (fun p wF => ∃ ob vi, p = .pointer (some ⟨ob, 0, none⟩) ∧ V.heap.size ≤ ob ∧ Hid (OutM V.heap.size ob a.sets vi (keptL u a.init) (.slice none 0 0) [] [] wF) ∧ Hid (Below V.heap.size V wF))
    case first =>
     refine wp_only ?_
     refine wp_region_held_drew (S := fun w' => w'.cell? ⟨w.heap.size, 0, none⟩ = some (.int .i64 a.sets) ∧ w'.cell? ⟨w.heap.size, 1, none⟩ = some (.slice Ai ni ci) ∧ w'.cell? ⟨wr.heap.size, 0, none⟩ = some (.func (.func 62) #[] #[.pointer (some ⟨w3.heap.size + 1 + 1 + 1, 0, none⟩), .pointer (some ⟨w6.heap.size + 1, 0, none⟩)])) (by kernel_rfl) ⟨x0, x1, HCV.out⟩ (fun hS => ?_)
     refine tkH 0 rfl hS ?_
     refine tkH 1 rfl hS ?_
     refine tkH 2 rfl hS ?_
     refine tkH 3 rfl hS ?_
     refine tkH 4 rfl hS ?_
     refine wpAnyH_ready (rs := [5, 7]) (by kernel_rfl) (by simp) ?_
     refine (allReadyH_consD (i := 5) rfl (fun K hK => ?_) (allReadyH_consD (i := 7) rfl (fun K hK => ?_) AllReadyH.nil))
     ·skip
      go_simp
      refine (HLF.out _ a.init Ai ni ci (Below.drew (Below.refl _ _)) ((HRV.out.below (Below.drew (Below.refl _ _)) (show B ≤ V.heap.size by have := HZ0.out; have := HZV.out; omega)).init.up (show B ≤ _ by have := HZ0.out; have := HZV.out; first | omega | (rw [World.size_drew]; omega))) (fun t ht => by rw [HNN.out]; exact HOK.out.1 t ht) hri).mono ?_
      rintro e w8 ⟨v8, rfl, ho8, hb8'⟩
      have hb8 : Below V.heap.size V w8 := below_undrew hb8'
      obtain ⟨A8, c8, rfl, -⟩ := own_sl ho8
      dsimp only
      refine hK.out _ _ ⟨(hb8.cell (p := ⟨w.heap.size, 0, none⟩) (show w.heap.size < V.heap.size by have := HZ0.out; have := HZV.out; omega)).trans x0, (hb8.cell (p := ⟨w.heap.size, 1, none⟩) (show w.heap.size < V.heap.size by have := HZ0.out; have := HZV.out; omega)).trans x1, (hb8.cell (p := ⟨wr.heap.size, 0, none⟩) (show wr.heap.size < V.heap.size by have := HZV.out; omega)).trans HCV.out⟩ (fun hS => ?_)
      clear hK
      try simp only [Act.put, List.setIfInBounds_toArray, List.set_cons_zero, List.set_cons_succ]
      refine tkH 6 rfl hS ?_
      refine wpAnyH_oneD (i := 7) rfl (by kernel_rfl) (fun K hK => ?_)
      obtain ⟨wA, hwA⟩ : ∃ X, w8.alloc (.cells #[.int .i64 0, .slice none 0 0, .slice none 0 0] 25) = X := ⟨_, rfl⟩
      have hbA : Below V.heap.size V wA := by rw [← hwA]; exact hb8.alloc hb8.size _
      have hzA : wA.heap.size = w8.heap.size + 1 := by rw [← hwA]; simp
      have haA : wA.heap[w8.heap.size]? = some (.cells #[.int .i64 0, .slice none 0 0, .slice none 0 0] 25) := by rw [← hwA]; exact heap_alloc_new w8 _
      have hoA := own_below ho8 (by rw [← hwA]; exact (Below.refl _ _).alloc (Nat.le_refl _) _ : Below w8.heap.size w8 wA)
      go_simp
      refine hK.out _ _ ⟨(hbA.cell (p := ⟨w.heap.size, 0, none⟩) (show w.heap.size < V.heap.size by have := HZ0.out; have := HZV.out; omega)).trans x0, (hbA.cell (p := ⟨w.heap.size, 1, none⟩) (show w.heap.size < V.heap.size by have := HZ0.out; have := HZV.out; omega)).trans x1, (hbA.cell (p := ⟨wr.heap.size, 0, none⟩) (show wr.heap.size < V.heap.size by have := HZV.out; omega)).trans HCV.out⟩ (fun hS => ?_)
      clear hK
      try simp only [Act.put, List.setIfInBounds_toArray, List.set_cons_zero, List.set_cons_succ]
      refine wpAnyH_oneD (i := 8) rfl (by kernel_rfl) (fun K hK => ?_)
      have y0 : wA.cell? ⟨w8.heap.size, 0, none⟩ = some (.int .i64 0) := by rw [cell_of_row _ _ _ _ _ (0, 0) haA]; rfl
      have y1 : wA.cell? ⟨w8.heap.size, 1, none⟩ = some (.slice none 0 0) := by rw [cell_of_row _ _ _ _ _ (0, 0) haA]; rfl
      have y2 : wA.cell? ⟨w8.heap.size, 2, none⟩ = some (.slice none 0 0) := by rw [cell_of_row _ _ _ _ _ (0, 0) haA]; rfl
      have f0 : wA.frozen? ⟨w8.heap.size, 0, none⟩ = false := frozen_of_row wA _ 0 _ _ haA
      have f1 : wA.frozen? ⟨w8.heap.size, 1, none⟩ = false := frozen_of_row wA _ 1 _ _ haA
      have f2 : wA.frozen? ⟨w8.heap.size, 2, none⟩ = false := frozen_of_row wA _ 2 _ _ haA
      have yl : w8.heap.size < wA.heap.size := (Array.getElem?_eq_some_iff.1 haA).1
      have ob0 : V.heap.size ≤ w8.heap.size := by first | exact Nat.le_refl _ | exact hb8.size
      have hset := set3A (a := .int .i64 a.sets) (b := .slice A8 (keptL u a.init).length c8) (c := .slice none 0 0) haA rfl
      have htc := tch3A wA (w8.heap.size) (.int .i64 a.sets) (.slice A8 (keptL u a.init).length c8) (.slice none 0 0)
      have hof := own_tch hoA htc (fun g hg e => own_ne_blk hoA haA (by decide) (by rw [hg, e]))
      obtain ⟨wF, hwF⟩ : ∃ X, ((wA.setCell ⟨w8.heap.size, 0, none⟩ (.int .i64 a.sets)).setCell ⟨w8.heap.size, 1, none⟩ (.slice A8 (keptL u a.init).length c8)).setCell ⟨w8.heap.size, 2, none⟩ (.slice none 0 0) = X := ⟨_, rfl⟩
      rw [hwF] at hset htc hof
      have hbF : Below V.heap.size V wF := hbA.trans (htc.below hbA.size (fun x hx e => by have e : x = w8.heap.size := e; omega))
      have HOUT : Hid (OutM V.heap.size (w8.heap.size) a.sets (.slice A8 (keptL u a.init).length c8) (keptL u a.init) (.slice none 0 0) [] [] wF) := Lib.hid ⟨hset, own_base hof (Nat.zero_le _), NodesM.nil _ _⟩
      have HBF := Lib.hid hbF
      have OB0 := Lib.hid ob0
      clear hset htc hof
      go_simp
      try rw [hwF]
      refine hK.out _ _ ⟨(hbF.cell (p := ⟨w.heap.size, 0, none⟩) (show w.heap.size < V.heap.size by have := HZ0.out; have := HZV.out; omega)).trans x0, (hbF.cell (p := ⟨w.heap.size, 1, none⟩) (show w.heap.size < V.heap.size by have := HZ0.out; have := HZV.out; omega)).trans x1, (hbF.cell (p := ⟨wr.heap.size, 0, none⟩) (show wr.heap.size < V.heap.size by have := HZV.out; omega)).trans HCV.out⟩ (fun hS => ?_)
      clear hK
      try simp only [Act.put, List.setIfInBounds_toArray, List.set_cons_zero, List.set_cons_succ]
      refine wpAnyH_done (by kernel_rfl) ?_ _
      go_wp2_with fail
      go_meet
      case rel => exact ⟨_, _, rfl, OB0.out, HOUT, HBF⟩
     ·skip
      obtain ⟨wA, hwA⟩ : ∃ X, V.drew.alloc (.cells #[.int .i64 0, .slice none 0 0, .slice none 0 0] 25) = X := ⟨_, rfl⟩
      have hbA : Below V.heap.size V wA := by rw [← hwA]; exact (Below.drew (Below.refl _ _)).alloc (Nat.le_refl _) _
      have hzA : wA.heap.size = V.heap.size + 1 := by rw [← hwA]; simp
      have haA : wA.heap[V.heap.size]? = some (.cells #[.int .i64 0, .slice none 0 0, .slice none 0 0] 25) := by rw [← hwA]; exact heap_alloc_new V.drew _
      go_simp
      refine hK.out _ _ ⟨(hbA.cell (p := ⟨w.heap.size, 0, none⟩) (show w.heap.size < V.heap.size by have := HZ0.out; have := HZV.out; omega)).trans x0, (hbA.cell (p := ⟨w.heap.size, 1, none⟩) (show w.heap.size < V.heap.size by have := HZ0.out; have := HZV.out; omega)).trans x1, (hbA.cell (p := ⟨wr.heap.size, 0, none⟩) (show wr.heap.size < V.heap.size by have := HZV.out; omega)).trans HCV.out⟩ (fun hS => ?_)
      clear hK
      try simp only [Act.put, List.setIfInBounds_toArray, List.set_cons_zero, List.set_cons_succ]
      refine wpAnyH_oneD (i := 5) rfl (by kernel_rfl) (fun K hK => ?_)
      go_simp
      refine (HLF.out _ a.init Ai ni ci hbA ((HRV.out.below hbA (show B ≤ V.heap.size by have := HZ0.out; have := HZV.out; omega)).init.up (show B ≤ _ by have := HZ0.out; have := HZV.out; first | omega | (rw [World.size_drew]; omega))) (fun t ht => by rw [HNN.out]; exact HOK.out.1 t ht) hri).mono ?_
      rintro e w8 ⟨v8, rfl, ho8, hb8'⟩
      have hb8 : Below V.heap.size V w8 := hbA.trans (hb8'.mono hbA.size)
      obtain ⟨A8, c8, rfl, -⟩ := own_sl ho8
      have ha8 : w8.heap[V.heap.size]? = some (.cells #[.int .i64 0, .slice none 0 0, .slice none 0 0] 25) := (hb8'.block V.heap.size (by rw [hzA]; omega)).trans haA
      dsimp only
      refine hK.out _ _ ⟨(hb8.cell (p := ⟨w.heap.size, 0, none⟩) (show w.heap.size < V.heap.size by have := HZ0.out; have := HZV.out; omega)).trans x0, (hb8.cell (p := ⟨w.heap.size, 1, none⟩) (show w.heap.size < V.heap.size by have := HZ0.out; have := HZV.out; omega)).trans x1, (hb8.cell (p := ⟨wr.heap.size, 0, none⟩) (show wr.heap.size < V.heap.size by have := HZV.out; omega)).trans HCV.out⟩ (fun hS => ?_)
      clear hK
      try simp only [Act.put, List.setIfInBounds_toArray, List.set_cons_zero, List.set_cons_succ]
      refine tkH 6 rfl hS ?_
      refine wpAnyH_oneD (i := 8) rfl (by kernel_rfl) (fun K hK => ?_)
      have y0 : w8.cell? ⟨V.heap.size, 0, none⟩ = some (.int .i64 0) := by rw [cell_of_row _ _ _ _ _ (0, 0) ha8]; rfl
      have y1 : w8.cell? ⟨V.heap.size, 1, none⟩ = some (.slice none 0 0) := by rw [cell_of_row _ _ _ _ _ (0, 0) ha8]; rfl
      have y2 : w8.cell? ⟨V.heap.size, 2, none⟩ = some (.slice none 0 0) := by rw [cell_of_row _ _ _ _ _ (0, 0) ha8]; rfl
      have f0 : w8.frozen? ⟨V.heap.size, 0, none⟩ = false := frozen_of_row w8 _ 0 _ _ ha8
      have f1 : w8.frozen? ⟨V.heap.size, 1, none⟩ = false := frozen_of_row w8 _ 1 _ _ ha8
      have f2 : w8.frozen? ⟨V.heap.size, 2, none⟩ = false := frozen_of_row w8 _ 2 _ _ ha8
      have yl : V.heap.size < w8.heap.size := (Array.getElem?_eq_some_iff.1 ha8).1
      have ob0 : V.heap.size ≤ V.heap.size := by first | exact Nat.le_refl _ | exact hb8.size
      have hset := set3A (a := .int .i64 a.sets) (b := .slice A8 (keptL u a.init).length c8) (c := .slice none 0 0) ha8 rfl
      have htc := tch3A w8 (V.heap.size) (.int .i64 a.sets) (.slice A8 (keptL u a.init).length c8) (.slice none 0 0)
      have hof := own_tch ho8 htc (fun g hg e => own_ne_blk ho8 ha8 (by decide) (by rw [hg, e]))
      obtain ⟨wF, hwF⟩ : ∃ X, ((w8.setCell ⟨V.heap.size, 0, none⟩ (.int .i64 a.sets)).setCell ⟨V.heap.size, 1, none⟩ (.slice A8 (keptL u a.init).length c8)).setCell ⟨V.heap.size, 2, none⟩ (.slice none 0 0) = X := ⟨_, rfl⟩
      rw [hwF] at hset htc hof
      have hbF : Below V.heap.size V wF := hb8.trans (htc.below hb8.size (fun x hx e => by have e : x = V.heap.size := e; omega))
      have HOUT : Hid (OutM V.heap.size (V.heap.size) a.sets (.slice A8 (keptL u a.init).length c8) (keptL u a.init) (.slice none 0 0) [] [] wF) := Lib.hid ⟨hset, own_base hof (Nat.zero_le _), NodesM.nil _ _⟩
      have HBF := Lib.hid hbF
      have OB0 := Lib.hid ob0
      clear hset htc hof
      go_simp
      try rw [hwF]
      refine hK.out _ _ ⟨(hbF.cell (p := ⟨w.heap.size, 0, none⟩) (show w.heap.size < V.heap.size by have := HZ0.out; have := HZV.out; omega)).trans x0, (hbF.cell (p := ⟨w.heap.size, 1, none⟩) (show w.heap.size < V.heap.size by have := HZ0.out; have := HZV.out; omega)).trans x1, (hbF.cell (p := ⟨wr.heap.size, 0, none⟩) (show wr.heap.size < V.heap.size by have := HZV.out; omega)).trans HCV.out⟩ (fun hS => ?_)
      clear hK
      try simp only [Act.put, List.setIfInBounds_toArray, List.set_cons_zero, List.set_cons_succ]
      refine wpAnyH_done (by kernel_rfl) ?_ _
      go_wp2_with fail
      go_meet
      case rel => exact ⟨_, _, rfl, OB0.out, HOUT, HBF⟩
    case rest =>
     obtain ⟨ob, vi, rfl, hob, HOUT, HBF⟩ := hcut
     have hzf := HBF.out.size
     have hbw : wc.cell? ⟨w3.heap.size + 1 + 1 + 1, 0, none⟩ = some (.pointer (some ⟨w3.heap.size + 1 + 1, 0, none⟩)) := (HBF.out.cell (p := ⟨w3.heap.size + 1 + 1 + 1, 0, none⟩) (show w3.heap.size + 1 + 1 + 1 < V.heap.size by have := HZV.out; omega)).trans HB1V.out
     have HALL := Lib.hid (bitsAll_any (some ⟨w3.heap.size + 1 + 1, 0, none⟩) wc)
     clear x0 x1 x2 hcV
     go_wp2_with fail
     refine HALL.out.mono ?_
     rintro e w' ⟨rfl, rfl⟩
     go_wp2_with fail
     obtain ⟨W9, hW9⟩ : ∃ X, wc.alloc (.cells #[.pointer (some ⟨w3.heap.size + 1 + 1, 0, none⟩)] 77) = X := ⟨_, rfl⟩
     have hb9 : Below wc.heap.size wc W9 := by rw [← hW9]; exact (Below.refl _ _).alloc (Nat.le_refl _) _
     have hz9 : W9.heap.size = wc.heap.size + 1 := by rw [← hW9]; simp
     have hc9 : W9.cell? ⟨wc.heap.size, 0, none⟩ = some (.pointer (some ⟨w3.heap.size + 1 + 1, 0, none⟩)) := by rw [← hW9]; exact (Boxed.new wc _ _).cell
     have HOUT9 := Lib.hid (HOUT.out.below hb9)
     have hob9 : ob < W9.heap.size := HOUT9.out.lt
     have HBV9 := Lib.hid (HBF.out.trans (hb9.mono hzf))
     have HBW9 := Lib.hid (HBV1.out.trans (HBV9.out.mono (show w1.heap.size ≤ V.heap.size by have := HZV.out; omega)))
     have HBWW := Lib.hid (HBB.out.trans (HBW9.out.mono (show w.heap.size ≤ w1.heap.size by have := HZ0.out; omega)))
     have hX9 := HXSV.out.below HBV9.out
     have hT9 : TabAt 0 Lib.deBruijn64tab W9 := fun x hx => (HBWW.out.cell (p := ⟨_, x, none⟩) HG.out).trans (HTB.out x hx)
     rw [hW9]
     clear hW9 hb9
     refine (wpIn_wide (n := m)).1 ?_
     have hgW := HG.out
     have HPRE : Hid (∀ (pre : List Nat) (x : Nat), pre ++ [x] <+: numsW Wd → pre.length ≤ 16384) := Lib.hid (fun pre x hp => by
      have h1 := hp.length_le
      have h2 : (numsW Wd).length ≤ 64 * Wd.length := by
       unfold numsW
       have := List.length_filter_le (bitOf Wd) (List.range (64 * Wd.length))
       rwa [List.length_range] at this
      have h3 := hX9.2.2.1
      rw [List.length_append] at h1
      omega)
     have hM0 : ∀ x, (fun x => x = ob) x → x < W9.heap.size := fun x e => by have e : x = ob := e; omega
     refine wpIn_rangeFunc_T rfl h1m (gf := 91) (lb := #[.pointer (some ⟨wc.heap.size, 0, none⟩)]) rfl trivial (enters_of Tryd.func91 (by kernel_rfl) rfl)
      (all_T (m - 1) (by omega) wc.heap.size (w3.heap.size + 1 + 1) (w3.heap.size + 1) nn Wd (fun x => x = ob) W9 hM0 (by have := HZV.out; have := HZ0.out; omega) (fun e => by have e : 0 = ob := e; have := HZV.out; have := HZ0.out; omega) hc9 (by omega) hX9 (fun e => by have e : w3.heap.size + 1 = ob := e; have := HZV.out; omega) hT9) hM0 (fun _ => rfl)
      (fun (s' : List Nat × (Nat → Prop)) X => (∃ vn xs, OutM V.heap.size ob a.sets vi (keptL u a.init) vn (s'.1.map (nodeF a u)) xs X ∧ (∀ g, vn.ownBlock = some g → s'.2 g)) ∧ (Rnd (fun x => x = ob) W9 s'.2 X ∧ s'.2 ob))
      (fun c s' X => False)
      (OwnFrom.and (fun s' X Y row hx hg' hr' => by obtain ⟨vn, xs, h1, h2⟩ := hx; exact ⟨vn, xs, h1.grown hg' hr', h2⟩) (OwnFrom.and (ownFrom_rnd (Nat.le_refl _) (fun s' : List Nat × (Nat → Prop) => s'.2)) (ownFrom_pure _ _)))
      (fun c _ _ _ _ h _ _ => h)
      ⟨⟨_, _, HOUT9.out, fun g hg => by simp [Value.ownBlock] at hg⟩, Rnd.refl hM0, rfl⟩
      (fun (x : Nat) a' _ => a' = { tmps := #[.agg #[.int .i64 a.sets, .slice Ai ni ci, .slice An nn cn], .pointer (some ⟨w.heap.size, 0, none⟩), .pointer (some ⟨w.heap.size + 1, 0, none⟩), .pointer (some ⟨w3.heap.size, 0, none⟩), .pointer (some ⟨w3.heap.size + 1 + 1 + 1, 0, none⟩), .slice A5 qe c5, .slice A6 qe c6, .pointer (some ⟨w6.heap.size + 1, 0, none⟩), .int .i64 ((numC u j : Nat) : Int), u9, .pointer (some ⟨wr.heap.size, 0, none⟩), .pointer (some ⟨ob, 0, none⟩), .int .i64 (x : Int), u13, u14, u15, u16, u17, u18, u19, u20, u21, u22, u23, u24, u25, u26, u27, u28, u29, u30, u31, u32, u33, u34, u35, u36, u37, u38, u39, u40, u41, u42, u43, u44, u45, u46, u47, u48, u49, u50, u51, u52, u53, u54, u55, u56, u57, u58, u59, u60, u61, u62, u63, u64, u65, u66, u67, u68, u69, .pointer (some ⟨w3.heap.size + 1 + 1, 0, none⟩), .func (.func 91) #[] #[.pointer (some ⟨wc.heap.size, 0, none⟩)], .int .i64 (x : Int), u73, u74, u75, u76, u77, u78, u79, u80, u81, u82, u83, u84, u85, u86, u87, u88, u89, u90, u91, u92, u93, u94], defers := [] })
      (fun _ _ _ _ _ _ hs' _ _ => hs') ?assign ?body ?done ?stop
     case assign =>
      intro l2 pre x N1 X K hi _ hK
      gi_wp2
      exact hK _ _ (Tch.refl _ _) hi rfl
     case body =>
      rintro l2 pre x N1 a2 X hl2 _ _ hNX ⟨⟨vn, xs, hout, hvN⟩, hrnd, hNob⟩ rfl hlen
      dsimp only at hout hvN hrnd hNob
      have hxm : x ∈ numsW Wd := by
       obtain ⟨t, ht⟩ := hlen
       rw [← ht]; simp
      rw [HSN.out.nums] at hxm
      obtain ⟨hx1, hx2⟩ := List.mem_filter.1 hxm
      rw [markK_len] at hx1
      have hxn : x < nn := List.mem_range.1 hx1
      rw [markK_at hxn, decide_eq_true hxn, Bool.true_and] at hx2
      have hMob : ∀ y, (fun y => y = ob) y → V.heap.size ≤ y := fun y e => by have e : y = ob := e; omega
      have HBX := Lib.hid (HBV9.out.trans (rnd_below hrnd (show V.heap.size ≤ W9.heap.size by omega) hMob))
      have hzX := HBX.out.size
      have HX1' := Lib.hid (((HBV1.out.trans (HBX.out.mono (show w1.heap.size ≤ V.heap.size by have := HZV.out; omega))).block w.heap.size (by have := HZ0.out; omega)).trans HX1.out)
      have q2 : X.cell? ⟨w.heap.size, 2, none⟩ = some (.slice An nn cn) := by rw [cell_of_row _ _ _ _ _ (0, 0) HX1'.out]; rfl
      have hRX := HRV.out.below HBX.out (show B ≤ V.heap.size by have := HZ0.out; have := HZV.out; omega)
      have hcn := (Exists.choose_spec hRX.nodes).1.cap
      have hmn := (Exists.choose_spec hRX.nodes).1.max
      unfold maxLen at hmn
      obtain ⟨bx, ox, nd, At, ct, hAn, hbx, hnd', d0, d1, d2, d3, hst⟩ := rd_aut hRX hxn
      have hndx : a.at x = nd := by unfold Aut.at; rw [List.getD_eq_getElem?_getD, hnd']; rfl
      have hndm : nd ∈ a.nodes := List.mem_of_getElem? hnd'
      have HOUTX := Lib.hid hout
      have HRND := Lib.hid hrnd
      have HVN := Lib.hid hvN
      have HNX := Lib.hid hNX
      have HST := Lib.hid hst
      have HNDX := Lib.hid hndx
      have hx0 : (0 : Int) ≤ (x : Int) := by omega
      have hx1' : (x : Int) < (nn : Int) := by omega
      subst hAn
      have HX2 := Lib.hid hx2
      clear hout hrnd hvN hNX hst hRX hxm hx1 hnd' hndx hx2 hMob
      obtain ⟨Av, cv, rfl, -⟩ := own_sl HOUTX.out.nodes.own
      obtain ⟨np, hnp⟩ : ∃ k, (pre.map (nodeF a u)).length = k := ⟨_, rfl⟩
      have HNPQ := Lib.hid hnp
      have hnp16 : np ≤ 16384 := by
       have h1 := HPRE.out pre x hlen
       rw [← hnp, List.length_map]; omega
      rw [hnp] at HOUTX HVN
      clear hnp
      clear hlen
      obtain ⟨XA, hXA⟩ : ∃ Y, X.alloc (.cells #[.int .u64 (nd.need : Int), .int .u64 (nd.ban : Int), .int .u64 (nd.inn : Int), .slice At nd.to.length ct] 43) = Y := ⟨_, rfl⟩
      have hbXA : Below X.heap.size X XA := by rw [← hXA]; exact (Below.refl _ _).alloc (Nat.le_refl _) _
      have hzXA : XA.heap.size = X.heap.size + 1 := by rw [← hXA]; simp
      have hxA : XA.heap[X.heap.size]? = some (.cells #[.int .u64 (nd.need : Int), .int .u64 (nd.ban : Int), .int .u64 (nd.inn : Int), .slice At nd.to.length ct] 43 (0, 0)) := by rw [← hXA]; exact heap_alloc_new X _
      have HXA := Lib.hid hXA
      have HBXA := Lib.hid hbXA
      have HBA := Lib.hid (HBX.out.trans (hbXA.mono hzX))
      have HOA := Lib.hid (HOUTX.out.below hbXA)
      have HXC := Lib.hid hxA
      have HSTA := Lib.hid ((HST.out.below hbXA (by have := HZ0.out; have := HZV.out; omega)).up (show B ≤ XA.heap.size by have := HZ0.out; have := HZV.out; omega))
      have HVG := Lib.hid (fun g (hg : (Value.slice Av np cv).ownBlock = some g) => (HOUTX.out.nodes.own.lt g hg))
      clear hXA hbXA hxA
      gi_wp2
      rw [HXA.out]
      clear d0 d1 d2 d3 q2
      obtain ⟨s0, s1, s2, s3⟩ := box4A HXC.out
      obtain ⟨r0, r1, r2⟩ := HOA.out.cells
      have rc : XA.cell? ⟨wr.heap.size, 0, none⟩ = some (.func (.func 62) #[] #[.pointer (some ⟨w3.heap.size + 1 + 1 + 1, 0, none⟩), .pointer (some ⟨w6.heap.size + 1, 0, none⟩)]) := (HBA.out.cell (p := ⟨wr.heap.size, 0, none⟩) (show wr.heap.size < V.heap.size by have := HZV.out; omega)).trans HCV.out
      clear r0 r1
      refine wpIn_norm ?_
      refine wpIn_region_U (S := fun w' => w'.cell? ⟨ob, 2, none⟩ = some (.slice Av np cv) ∧ w'.cell? ⟨X.heap.size, 0, none⟩ = some (.int .u64 (nd.need : Int)) ∧ w'.cell? ⟨X.heap.size, 1, none⟩ = some (.int .u64 (nd.ban : Int)) ∧ w'.cell? ⟨X.heap.size, 2, none⟩ = some (.int .u64 (nd.inn : Int)) ∧ w'.cell? ⟨X.heap.size, 3, none⟩ = some (.slice At nd.to.length ct) ∧ w'.cell? ⟨wr.heap.size, 0, none⟩ = some (.func (.func 62) #[] #[.pointer (some ⟨w3.heap.size + 1 + 1 + 1, 0, none⟩), .pointer (some ⟨w6.heap.size + 1, 0, none⟩)])) 16 (by kernel_rfl) (by kernel_rfl) lets_none ⟨r2, s0, s1, s2, s3, rc⟩ (fun hS => ?_)
      refine tkU 0 [] rfl hS ?_
      refine tkU 1 [] rfl hS ?_
      refine tkU 2 [] rfl hS ?_
      refine tkU 3 [] rfl hS ?_
      refine tkU 4 [] rfl hS ?_
      refine tkU 5 [] rfl hS ?_
      refine tkU 6 [] rfl hS ?_
      refine tkU 7 [] rfl hS ?_
      refine tkU 8 [] rfl hS ?_
      refine tkU 9 [] rfl hS ?_
      refine tkU 10 [] rfl hS ?_
      refine wpAnyU_oneD (i := 11) rfl (by kernel_rfl) (fun K hK => ?_)
      go_simp
      refine (HLF.out _ nd.to At _ ct (Below.drew HBA.out) (HSTA.out.below (B' := XA.heap.size) (Below.drew (Below.refl _ _)) (Nat.le_refl _)) (fun t ht => by rw [HNN.out]; exact HOK.out.2 nd hndm t ht) (by have := hr nd hndm; omega)).mono ?_
      rintro e w8 ⟨v8, rfl, ho8, hb8'⟩
      have hb8 : Below XA.heap.size XA w8 := below_undrew hb8'
      obtain ⟨A8, c8, rfl, -⟩ := own_sl ho8
      have HO8 := Lib.hid ho8
      have HB8 := Lib.hid hb8
      have hO8 := HOA.out.below hb8
      have HOM8 := Lib.hid hO8
      clear ho8 hb8' hO8
      dsimp only
      refine hK.out _ _ ⟨(hb8.cell (p := ⟨ob, 2, none⟩) (show ob < XA.heap.size from HOA.out.lt)).trans r2, (hb8.cell (p := ⟨X.heap.size, 0, none⟩) (show X.heap.size < XA.heap.size by omega)).trans s0, (hb8.cell (p := ⟨X.heap.size, 1, none⟩) (show X.heap.size < XA.heap.size by omega)).trans s1, (hb8.cell (p := ⟨X.heap.size, 2, none⟩) (show X.heap.size < XA.heap.size by omega)).trans s2, (hb8.cell (p := ⟨X.heap.size, 3, none⟩) (show X.heap.size < XA.heap.size by omega)).trans s3, (hb8.cell (p := ⟨wr.heap.size, 0, none⟩) (show wr.heap.size < XA.heap.size by have := HZV.out; omega)).trans rc⟩ (fun hS => ?_)
      clear hK
      try simp only [Act.put, List.setIfInBounds_toArray, List.set_cons_zero, List.set_cons_succ]
      refine tkU 12 [] rfl hS ?_
      refine wpAnyU_oneD (i := 13) rfl (by kernel_rfl) (fun K hK => ?_)
      go_simp
      have tb := heap_alloc_new w8 (.cells #[.int .u64 (nd.need : Int), .int .u64 (nd.ban : Int), .int .u64 (nd.inn : Int), .slice A8 (keptL u nd.to).length c8] 43)
      obtain ⟨wY, hwY⟩ : ∃ W, w8.alloc (.cells #[.int .u64 (nd.need : Int), .int .u64 (nd.ban : Int), .int .u64 (nd.inn : Int), .slice A8 (keptL u nd.to).length c8] 43) = W := ⟨_, rfl⟩
      have hbY : Below w8.heap.size w8 wY := by rw [← hwY]; exact (Below.refl _ _).alloc (Nat.le_refl _) _
      have hOY := HOM8.out.below hbY
      have hz8 := HB8.out.size
      have t0 := (hbY.cell (p := ⟨ob, 2, none⟩) HOM8.out.lt).trans hS.1
      have t1 := (hbY.cell (p := ⟨X.heap.size, 0, none⟩) (show X.heap.size < w8.heap.size by omega)).trans hS.2.1
      have t2 := (hbY.cell (p := ⟨X.heap.size, 1, none⟩) (show X.heap.size < w8.heap.size by omega)).trans hS.2.2.1
      have t3 := (hbY.cell (p := ⟨X.heap.size, 2, none⟩) (show X.heap.size < w8.heap.size by omega)).trans hS.2.2.2.1
      have t4 := (hbY.cell (p := ⟨X.heap.size, 3, none⟩) (show X.heap.size < w8.heap.size by omega)).trans hS.2.2.2.2.1
      have t5 := (hbY.cell (p := ⟨wr.heap.size, 0, none⟩) (show wr.heap.size < w8.heap.size by have := HZV.out; omega)).trans hS.2.2.2.2.2
      rw [hwY] at tb ⊢
      have HWY := Lib.hid hwY
      have hzY : wY.heap.size = w8.heap.size + 1 := by rw [← hwY]; simp
      clear hwY
      refine hK.out _ _ ⟨t0, t1, t2, t3, t4, t5⟩ (fun hS => ?_)
      clear hK
      try simp only [Act.put, List.setIfInBounds_toArray, List.set_cons_zero, List.set_cons_succ]
      refine wpAnyU_oneD (i := 14) rfl (by kernel_rfl) (fun K hK => ?_)
      refine step_push rfl (.tmp 79) (.tmp 91) 23 rfl V.heap.size 43 4 48 sliceANd _ _ _ hOY.nodes.own (by rfl) w8.heap.size #[.int .u64 (nd.need : Int), .int .u64 (nd.ban : Int), .int .u64 (nd.inn : Int), .slice A8 (keptL u nd.to).length c8] (by rfl) tb rfl (by simp [Value.oneCell']) (by have := HNPQ.out; omega) (by omega) (by omega) ?_
      intro uZ wZ hownZ htZ hatZ _
      obtain ⟨gZ, cZ, rfl⟩ := ownsRow_succ hownZ
      rw [← HWY.out] at htZ hatZ
      have hpush := HOM8.out.push (x := nd.put (keptL u nd.to)) (own_base HO8.out (Nat.zero_le _)) hownZ htZ
      obtain ⟨⟨fz, lz, cz⟩, hOZ⟩ := hpush
      have htZ2 := htZ
      rw [HWY.out] at htZ2
      have t1 := (htZ2.cell (p := ⟨X.heap.size, 0, none⟩) (show X.heap.size < wY.heap.size by omega) (fun e => by have := HVG.out _ e; have h9 : X.heap.size < X.heap.size := this.2; omega)).trans hS.2.1
      have t2 := (htZ2.cell (p := ⟨X.heap.size, 1, none⟩) (show X.heap.size < wY.heap.size by omega) (fun e => by have := HVG.out _ e; have h9 : X.heap.size < X.heap.size := this.2; omega)).trans hS.2.2.1
      have t3 := (htZ2.cell (p := ⟨X.heap.size, 2, none⟩) (show X.heap.size < wY.heap.size by omega) (fun e => by have := HVG.out _ e; have h9 : X.heap.size < X.heap.size := this.2; omega)).trans hS.2.2.2.1
      have t4 := (htZ2.cell (p := ⟨X.heap.size, 3, none⟩) (show X.heap.size < wY.heap.size by omega) (fun e => by have := HVG.out _ e; have h9 : X.heap.size < X.heap.size := this.2; omega)).trans hS.2.2.2.2.1
      have t5 := (htZ2.cell (p := ⟨wr.heap.size, 0, none⟩) (show wr.heap.size < wY.heap.size by have := HZV.out; omega) (fun e => by have := HVG.out _ e; have h9 : V.heap.size ≤ wr.heap.size := this.1; have := HZV.out; omega)).trans hS.2.2.2.2.2
      have HOZ := Lib.hid hOZ
      have HTZ := Lib.hid htZ
      have HATZ := Lib.hid hatZ
      have HOWN := Lib.hid hownZ
      clear hOZ htZ htZ2 hatZ hownZ
      refine hK.out _ _ ⟨cz, t1, t2, t3, t4, t5⟩ (fun hS => ?_)
      clear hK
      try simp only [Act.put, List.setIfInBounds_toArray, List.set_cons_zero, List.set_cons_succ]
      refine tkU 15 [] rfl hS ?_
      refine wpAnyU_lastD (i := 16) rfl (by kernel_rfl) (by kernel_rfl) (fun K hK => ?_)
      go_simp
      refine hK.out _ _ ?_
      clear hK
      try simp only [Act.put, List.setIfInBounds_toArray, List.set_cons_zero, List.set_cons_succ]
      refine wpAnyU_done (by kernel_rfl) ?_
      clear hS t0 t1 t2 t3 t4 t5
      gi_wp2
      have hnx : nodeF a u x = nd.put (keptL u nd.to) := by unfold nodeF; rw [HNDX.out]
      have hO := HOZ.out
      simp only [List.length_map] at hO
      have htN : Tch N1 X (wZ.setCell ⟨ob, 2, none⟩ (.slice (some ⟨gZ, 0, none⟩) (pre.length + 1) cZ)) := ((((below_tch HBXA.out : Tch N1 X XA).then_ (below_tch HB8.out)).then_ ((Tch.refl N1 w8).alloc _)).then_ (HTZ.out.wide (fun y e => HVN.out y e))).then_ ((tch_cell (w := wZ) ob 2 (.slice (some ⟨gZ, 0, none⟩) (pre.length + 1) cZ)).wide (fun y e => by have e : y = ob := e; rw [e]; exact hNob))
      have hgl := hO.nodes.own.lt gZ (by simp [Value.ownBlock])
      have hgN : gZ < X.heap.size → N1 gZ := fun hl => by
       rcases HATZ.out with h9 | h9
       ·exact HVN.out gZ (by rw [← h9]; simp [Value.ownBlock])
       ·have h8 := HB8.out.size
        simp [Value.ownBlock] at h9
        omega
      have hRN : Rnd N1 X (fun y => N1 y ∨ y = gZ) (wZ.setCell ⟨ob, 2, none⟩ (.slice (some ⟨gZ, 0, none⟩) (pre.length + 1) cZ)) := ⟨htN, fun y hy e => e.elim id (fun e => by subst e; exact hgN hy), fun y e => e.elim (fun e => Nat.lt_of_lt_of_le (HNX.out y e) htN.size) (fun e => by rw [e]; exact hgl.2)⟩
      have hv9 : ∀ g, (Value.slice (some ⟨gZ, 0, none⟩) (pre.length + 1) cZ).ownBlock = some g → (N1 g ∨ g = gZ) := fun g hg => .inr (by simp [Value.ownBlock] at hg; exact hg.symm)
      have hmp : (pre ++ [x]).map (nodeF a u) = pre.map (nodeF a u) ++ [nd.put (keptL u nd.to)] := by rw [List.map_append, List.map_cons, List.map_nil, hnx]
      rw [← hmp] at hO
      have hI : ∃ vn, (∃ xs, OutM V.heap.size ob a.sets vi (keptL u a.init) vn ((pre ++ [x]).map (nodeF a u)) xs (wZ.setCell ⟨ob, 2, none⟩ (.slice (some ⟨gZ, 0, none⟩) (pre.length + 1) cZ))) ∧ ∀ g, vn.ownBlock = some g → (N1 g ∨ g = gZ) := ⟨_, ⟨_, hO⟩, hv9⟩
      have hRR := HRND.out.trans hRN
      clear hO hv9 htN hgl hgN
      refine postT_ok (N' := fun y => N1 y ∨ y = gZ) hRN ?_
      exact ⟨hI, hRR, .inl hNob⟩
     case done =>
      rintro D N1 X hD hDN ⟨⟨vn, xs, hout, hvN⟩, hrnd, hNob⟩ hDv
      dsimp only at hout hvN hrnd hNob
      have hMob : ∀ y, (fun y => y = ob) y → V.heap.size ≤ y := fun y e => by have e : y = ob := e; omega
      have HBX := Lib.hid (HBV9.out.trans (rnd_below hrnd (show V.heap.size ≤ W9.heap.size by omega) hMob))
      have hzX := HBX.out.size
      have hDl : D < X.heap.size := (Array.getElem?_eq_some_iff.1 hDv).1
      have hns : (numsW Wd).map (nodeF a u) = (trimU a u).nodes := by
       have e : numsW Wd = (List.range a.nodes.length).filter (fun i => u.getD i false) := by
        rw [HSN.out.nums]
        unfold allL
        rw [markK_len, HNN.out]
        refine List.filter_congr (fun i hi => ?_)
        have hi := List.mem_range.1 hi
        rw [markK_at hi, decide_eq_true hi, Bool.true_and]
       rw [e]; rfl
      rw [hns] at hout
      obtain ⟨Ai', ci', An', cn', hvi, hvn, -⟩ := hout.rd
      obtain ⟨n1, hn1⟩ : ∃ k, (keptL u a.init).length = k := ⟨_, rfl⟩
      obtain ⟨n2, hn2⟩ : ∃ k, (trimU a u).nodes.length = k := ⟨_, rfl⟩
      rw [hn1] at hvi
      rw [hn2] at hvn
      have HN1 := Lib.hid hn1
      have HN2 := Lib.hid hn2
      have HVI := Lib.hid hvi
      rw [hvi, hvn] at hout
      have HOX := Lib.hid hout
      have HDV := Lib.hid hDv
      obtain ⟨r0, r1, r2⟩ := hout.cells
      have hy : X.heap[w.heap.size + 1]? = some (.cells #[.int .i64 0, .slice none 0 0, .slice none 0 0] 25 (0, 0)) := (HBX.out.block (w.heap.size + 1) (by have := HZ0.out; have := HZV.out; omega)).trans HYV.out
      have y0 : X.cell? ⟨w.heap.size + 1, 0, none⟩ = some (.int .i64 0) := by rw [cell_of_row _ _ _ _ _ (0, 0) hy]; rfl
      have y1 : X.cell? ⟨w.heap.size + 1, 1, none⟩ = some (.slice none 0 0) := by rw [cell_of_row _ _ _ _ _ (0, 0) hy]; rfl
      have y2 : X.cell? ⟨w.heap.size + 1, 2, none⟩ = some (.slice none 0 0) := by rw [cell_of_row _ _ _ _ _ (0, 0) hy]; rfl
      have f0 : X.frozen? ⟨w.heap.size + 1, 0, none⟩ = false := frozen_of_row X _ 0 _ _ hy
      have f1 : X.frozen? ⟨w.heap.size + 1, 1, none⟩ = false := frozen_of_row X _ 1 _ _ hy
      have f2 : X.frozen? ⟨w.heap.size + 1, 2, none⟩ = false := frozen_of_row X _ 2 _ _ hy
      have yl : w.heap.size + 1 < X.heap.size := (Array.getElem?_eq_some_iff.1 hy).1
      have HY := Lib.hid hy
      clear hns hn1 hn2 hvi hvn hout hDv hy hrnd hvN hMob
      go_wp2_with fail
      obtain ⟨Y, hY⟩ : ∃ Z, ((X.setCell ⟨w.heap.size + 1, 0, none⟩ (.int .i64 a.sets)).setCell ⟨w.heap.size + 1, 1, none⟩ (.slice Ai' n1 ci')).setCell ⟨w.heap.size + 1, 2, none⟩ (.slice An' n2 cn') = Z := ⟨_, rfl⟩
      have hset := set3A (a := .int .i64 a.sets) (b := .slice Ai' n1 ci') (c := .slice An' n2 cn') HY.out rfl
      have htc := tch3A X (w.heap.size + 1) (.int .i64 a.sets) (.slice Ai' n1 ci') (.slice An' n2 cn')
      rw [hY] at hset htc ⊢
      clear hY y0 y1 y2 f0 f1 f2 r0 r1 r2
      have hD9 : w.heap.size + 1 < D := by have := HZ0.out; have := HZV.out; omega
      have hDY : Y.heap[D]? = some (.deferred (some [])) := (htc.block D hDl (fun e => by have e : D = w.heap.size + 1 := e; omega)).trans HDV.out
      have hOY := HOX.out.keep htc (fun e => by have e : ob = w.heap.size + 1 := e; have := HZ0.out; have := HZV.out; omega) (fun g hg e => by have e : g = w.heap.size + 1 := e; exact own_ne_blk HOX.out.nodes.own HY.out (by decide) (by rw [hg, e])) (fun u' n ys ho g hg e => by have e : g = w.heap.size + 1 := e; exact own_ne_blk ho HY.out (by decide) (by rw [hg, e]))
      have hbY : Below w.heap.size w Y := (HBB.out.trans ((HBV1.out.trans (HBX.out.mono (show w1.heap.size ≤ V.heap.size by have := HZV.out; omega))).mono (show w.heap.size ≤ w1.heap.size by have := HZ0.out; omega))).trans (htc.below (show w.heap.size ≤ X.heap.size by omega) (fun y hy e => by have e : y = w.heap.size + 1 := e; omega))
      obtain ⟨Z, hZ⟩ : ∃ Z, Y.putObj D (.deferred none) = Z := ⟨_, rfl⟩
      have hOZ : OutM V.heap.size ob a.sets (.slice Ai' n1 ci') (keptL u a.init) (.slice An' n2 cn') (trimU a u).nodes xs Z := by
       rw [← hZ]
       exact hOY.grown (B := 0) (grownBy_putObj' Y D (.deferred none)) (fun r e => by cases e; exact ⟨Nat.zero_le _, _, hDY, rfl⟩)
      have hbZ : Below w.heap.size w Z := by rw [← hZ]; exact hbY.trans (belowK_b (w := w) (Nat.le_refl _) Y D _ _ (by omega) hDY rfl rfl)
      have hzr : Z.heap[w.heap.size + 1]? = some (.cells #[.int .i64 a.sets, .slice Ai' n1 ci', .slice An' n2 cn'] 25 (0, 0)) := by rw [← hZ]; exact (World.putObj_heap_other (by omega)).trans hset
      have g0 : Z.cell? ⟨w.heap.size + 1, 0, none⟩ = some (.int .i64 a.sets) := by rw [cell_of_row _ _ _ _ _ (0, 0) hzr]; rfl
      have g1 : Z.cell? ⟨w.heap.size + 1, 1, none⟩ = some (.slice Ai' n1 ci') := by rw [cell_of_row _ _ _ _ _ (0, 0) hzr]; rfl
      have g2 : Z.cell? ⟨w.heap.size + 1, 2, none⟩ = some (.slice An' n2 cn') := by rw [cell_of_row _ _ _ _ _ (0, 0) hzr]; rfl
      refine ⟨by simp, .inl ⟨_, _, rfl, run_takeDeferred hDY, ?_⟩⟩
      rw [hZ]
      have hfin : AutOne w (trimF a) (.returned (.agg #[.int .i64 a.sets, .slice Ai' n1 ci', .slice An' n2 cn'])) Z := by
       rw [HTF.out]
       obtain ⟨_, _, _, _, e1, e2, hrd⟩ := hOZ.rd
       cases e1
       cases e2
       exact ⟨_, _, _, _, _, _, rfl, hrd, hbZ⟩
      refine ⟨_, ?_, hfin⟩
      simp [results, Tryd.results29, go_sem, g0, g1, g2]
     case stop => exact fun _ _ _ _ _ _ _ _ h => h.elim
 ·have hne : ((chkA a) == 0) = false := by rw [beq_eq_false_iff_ne]; exact hck
  have hne2 : ((chkA a) != 0) = true := by rw [bne_iff_ne]; exact hck
  have hne3 : decide (chkA a = 0) = false := decide_eq_false hck
  have HTF : Hid (trimF a = Aut.zero) := Lib.hid (by unfold trimF; rw [if_neg hck])
  have y0 : w1.cell? ⟨w.heap.size + 1, 0, none⟩ = some (.int .i64 0) := by rw [cell_of_row _ _ _ _ _ (0, 0) hy1]; rfl
  have y1 : w1.cell? ⟨w.heap.size + 1, 1, none⟩ = some (.slice none 0 0) := by rw [cell_of_row _ _ _ _ _ (0, 0) hy1]; rfl
  have y2 : w1.cell? ⟨w.heap.size + 1, 2, none⟩ = some (.slice none 0 0) := by rw [cell_of_row _ _ _ _ _ (0, 0) hy1]; rfl
  have f0 : w1.frozen? ⟨w.heap.size + 1, 0, none⟩ = false := frozen_of_row w1 _ 0 _ _ hy1
  have f1 : w1.frozen? ⟨w.heap.size + 1, 1, none⟩ = false := frozen_of_row w1 _ 1 _ _ hy1
  have f2 : w1.frozen? ⟨w.heap.size + 1, 2, none⟩ = false := frozen_of_row w1 _ 2 _ _ hy1
  have yl : w.heap.size + 1 < w1.heap.size := (Array.getElem?_eq_some_iff.1 hy1).1
  have HY := Lib.hid hy1
  clear hck hx1 hy1
  go_wp2_with fail
  have hset := set3A (a := .int .i64 0) (b := .slice none 0 0) (c := .slice none 0 0) HY.out rfl
  have htc := tch3A w1 (w.heap.size + 1) (.int .i64 0) (.slice none 0 0) (.slice none 0 0)
  obtain ⟨Y, hY⟩ : ∃ Z, ((w1.setCell ⟨w.heap.size + 1, 0, none⟩ (.int .i64 0)).setCell ⟨w.heap.size + 1, 1, none⟩ (.slice none 0 0)).setCell ⟨w.heap.size + 1, 2, none⟩ (.slice none 0 0) = Z := ⟨_, rfl⟩
  rw [hY] at hset htc ⊢
  have hbY : Below w.heap.size w Y := HBB.out.trans (htc.below (show w.heap.size ≤ w1.heap.size by omega) (fun y hy e => by have e : y = w.heap.size + 1 := e; omega))
  have g0 : Y.cell? ⟨w.heap.size + 1, 0, none⟩ = some (.int .i64 0) := by rw [cell_of_row _ _ _ _ _ (0, 0) hset]; rfl
  have g1 : Y.cell? ⟨w.heap.size + 1, 1, none⟩ = some (.slice none 0 0) := by rw [cell_of_row _ _ _ _ _ (0, 0) hset]; rfl
  have g2 : Y.cell? ⟨w.heap.size + 1, 2, none⟩ = some (.slice none 0 0) := by rw [cell_of_row _ _ _ _ _ (0, 0) hset]; rfl
  have hfin : AutOne w (trimF a) (.returned (.agg #[.int .i64 0, .slice none 0 0, .slice none 0 0])) Y := by
   rw [HTF.out]
   exact ⟨none, 0, 0, none, 0, 0, rfl, autRd_nil Y _, hbY⟩
  refine ⟨_, ?_, hfin⟩
  simp [results, Tryd.results29, go_sem, g0, g1, g2]
theorem trimP_any (a : Aut) (Ai : Option Addr) (ni ci : Nat) (An : Option Addr) (nn cn : Nat) (w : World) (B : Nat) (h : AutRd w B a Ai ni ci An nn cn) (hB : B ≤ w.heap.size) (hT : TabAt 0 Lib.deBruijn64tab w) (hg : 0 < w.heap.size)
  (hnd : ∀ x ∈ a.nodes, x.need < 2 ^ 64 ∧ x.ban < 2 ^ 64) (hinn : ∀ x ∈ a.nodes, x.inn < 2 ^ 64) (KE : Nat) (hr : ∀ x ∈ a.nodes, x.to.length ≤ KE) (hri : a.init.length ≤ 100000000) (hKE : KE ≤ 1000000) :
  Calls Tryd.prog 29 #[.agg #[.int .i64 a.sets, .slice Ai ni ci, .slice An nn cn]] w (AutOne w (trimF a)) :=
 (callsIn_wide (n := 5)).1 (trim_in 5 (Nat.le_refl _) a Ai ni ci An nn cn w B h hB hT hg hnd hinn KE hr hri hKE)
end Go.Proofs.YtiebpncpdbnelaaDoor
