/- Texts that stand one behind the other, in one file. -/
import Derived.Test.YtiebpncpdbnelaaDoorZav
import Derived.Test.YtiebpncpdbnelaaDoorZau
import Derived.Test.YtiebpncpdbnelaaDoorAu9
import Derived.Test.YtiebpncpdbnelaaDoorZbd
import Derived.Test.YtiebpncpdbnelaaDoorZbe
import Derived.Test.YtiebpncpdbnelaaDoorZaf
import Derived.Test.YtiebpncpdbnelaaDoorMk
import Derived.Test.YtiebpncpdbnelaaDoorZbc
import Derived.OrdersIn
import Derived.RangeFuncCalls
namespace Go.Proofs.YtiebpncpdbnelaaDoor
structure GoodA (a : Aut) : Prop where
 n256 : a.nodes.length ≤ 256
 sets : 0 ≤ a.sets ∧ a.sets ≤ 16
 ok : a.Ok
 inn : ∀ x ∈ a.nodes, x.inn < 2 ^ a.sets.toNat
theorem chkNds_zeroQ {N : Nat} {s : Int} : ∀ {l : List ANd}, chkNds N s l = 0 → ∀ x ∈ l, chkNd N s x = 0
 | [], _, x, hx => by cases hx
 | y :: r, h, x, hx => by
  unfold chkNds at h
  split at h
  ·rename_i hy
   rcases List.mem_cons.1 hx with rfl | hx
   ·exact hy
   ·exact chkNds_zeroQ h x hx
  ·rename_i hy
   exact absurd h hy
theorem chk_iff {a : Aut} : chkA a = 0 ↔ GoodA a := by
 constructor
 ·intro h
  unfold chkA at h
  by_cases h1 : 256 < a.nodes.length ∨ 16 < a.sets
  ·rw [if_pos h1] at h; omega
  ·rw [if_neg h1] at h
   by_cases h2 : a.sets < 0
   ·rw [if_pos h2] at h; omega
   ·rw [if_neg h2] at h
    by_cases h3 : a.init.all (isNd a.nodes.length) = true
    ·rw [if_pos h3] at h
     have hz := chkNds_zeroQ h
     have hx : ∀ x ∈ a.nodes, x.to.all (isNd a.nodes.length) = true ∧ x.inn >>> a.sets.toNat = 0 := fun x hx => by
      have := hz x hx
      unfold chkNd at this
      split at this
      ·rename_i h4
       split at this
       ·rename_i h5; exact ⟨h4, h5⟩
       ·omega
      ·omega
     refine ⟨by omega, by omega, ⟨fun i hi => List.all_eq_true.1 h3 i hi, fun x hx' t ht => List.all_eq_true.1 (hx x hx').1 t ht⟩, fun x hx' => ?_⟩
     have := (hx x hx').2
     rw [Nat.shiftRight_eq_div_pow] at this
     rcases Nat.div_eq_zero_iff.1 this with h | h
     ·have := Nat.two_pow_pos a.sets.toNat; omega
     ·exact h
    ·rw [if_neg h3] at h; omega
 ·intro h
  exact chkA_zero h.n256 h.sets h.ok h.inn
section
variable {a : Aut} {p : Nat → Bool} {F : List Int → List Int}
end
section
variable {a : Aut}
end
end Go.Proofs.YtiebpncpdbnelaaDoor
namespace Go.Proofs.YtiebpncpdbnelaaDoor
open Go.RowKit
theorem ins_lt {a : Aut} (h : ∀ x ∈ a.nodes, x.inn < 2 ^ 64) (q : Nat) : (insA a).getD q 0 < 2 ^ 64 := by
 rw [insA_at]
 unfold Aut.at
 rw [List.getD_eq_getElem?_getD]
 cases hx : a.nodes[q]? with
 | none => simp [ANd.none]
 | some x => exact h x (List.mem_of_getElem? hx)
theorem alongN_lt {a : Aut} (h : ∀ x ∈ a.nodes, x.inn < 2 ^ 64) (M q : Nat) : (alongN a M).getD q 0 < 2 ^ 64 := by
 by_cases hq : q < M
 ·rw [alongN_at hq, ← insA_at]; exact ins_lt h _
 ·rw [List.getD_eq_getElem?_getD, List.getElem?_eq_none (by rw [alongN_len']; omega)]
  simp
theorem insA_len (a : Aut) : (insA a).length = a.nodes.length := by simp [insA]
theorem alongI_nd {a : Aut} (hA : a.Ok) {W : List Nat} {lp : Nat} (hlp : lp < W.length) : ∀ x ∈ alongI a W, isNd (alongE a W lp).length x = true := by
 intro x hx
 obtain ⟨k, rfl, hk⟩ := hA.first (List.mem_filter.1 hx).1
 rw [alongE_len]
 have : 1 * a.nodes.length ≤ W.length * a.nodes.length := Nat.mul_le_mul_right _ (by omega)
 exact isNd_iff.2 ⟨by omega, by omega⟩
theorem openI_nd {a : Aut} (hA : a.Ok) : ∀ x ∈ openI a, isNd (openE a).length x = true := by
 intro x hx
 rw [openE_len]
 exact hA.1 x (List.mem_filter.1 hx).1
set_option maxHeartbeats 2000000 in
set_option maxRecDepth 100000 in
theorem takesP_any (a : Aut) (Ai : Option Addr) (ni ci : Nat) (An : Option Addr) (nn cn : Nat) (A1 A2 : Option Addr) (n1 c1 n2 c2 : Nat) (st lo : List Int) (W : List Nat) (w : World) (B : Nat) (h : AutRd w B a Ai ni ci An nn cn) (hw : WRd w B A1 A2 n1 c1 n2 c2 st lo) (hB : B ≤ w.heap.size)
  (hnd : ∀ x ∈ a.nodes, x.need < 2 ^ 64 ∧ x.ban < 2 ^ 64) (hinn : ∀ x ∈ a.nodes, x.inn < 2 ^ 64) (KE : Nat) (hr : ∀ x ∈ a.nodes, x.to.length ≤ KE) (hri : a.init.length ≤ 100000000) (hl : n1 + n2 ≤ 60000) (hWl : n1 + n2 = W.length) (hat : 0 < n2 → ∀ k, k < W.length → atW st lo (k : Int) = ((W.getD k 0 : Nat) : Int)) (h64 : ∀ k, W.getD k 0 < 2 ^ 64)
  (hNE : W.length * nn ≤ 65536) (hKE : W.length * nn * KE ≤ 1000000000) (hK2 : KE ≤ 1000000) :
  Calls Tryd.prog 28 #[.agg #[.int .i64 a.sets, .slice Ai ni ci, .slice An nn cn], .agg #[.slice A1 n1 c1, .slice A2 n2 c2]] w (Tru w (decide (chkA a = 0) && decide (0 < n2) && accB a W n1)) := by
 obtain ⟨hb0, x0, y0, z0⟩ := two_new w (.cells #[.int .i64 a.sets, .slice Ai ni ci, .slice An nn cn] 25) (.cells #[.slice A1 n1 c1, .slice A2 n2 c2] 29)
 obtain ⟨W0, hW0⟩ : ∃ W0, (w.alloc (.cells #[.int .i64 a.sets, .slice Ai ni ci, .slice An nn cn] 25)).alloc (.cells #[.slice A1 n1 c1, .slice A2 n2 c2] 29) = W0 := ⟨_, rfl⟩
 rw [hW0] at hb0 x0 y0 z0
 have HR0 := Lib.hid (h.below hb0 hB)
 have HC0 := Lib.hid (autoCheck_any a Ai ni ci An nn cn W0 B HR0.out (by omega) hri (fun x hx => by have := hr x hx; omega))
 have HWR0 := Lib.hid (hw.below hb0 hB)
 have HW0 := Lib.hid hW0
 have HB0 := Lib.hid hb0
 have HX0 := Lib.hid x0
 have HY0 := Lib.hid y0
 have HZ0 := Lib.hid z0
 clear hW0 hb0 x0 y0 z0 h hw
 go_enter Tryd.func28, Tryd.ntmps28
 go_upto_region 1 with fail
 rw [HW0.out]
 have q0 : W0.cell? ⟨w.heap.size, 0, none⟩ = some (.int .i64 a.sets) := by rw [cell_of_row _ _ _ _ _ (0, 0) HX0.out]; rfl
 have q1 : W0.cell? ⟨w.heap.size, 1, none⟩ = some (.slice Ai ni ci) := by rw [cell_of_row _ _ _ _ _ (0, 0) HX0.out]; rfl
 have q2 : W0.cell? ⟨w.heap.size, 2, none⟩ = some (.slice An nn cn) := by rw [cell_of_row _ _ _ _ _ (0, 0) HX0.out]; rfl
 go_wp2_with fail
 refine HC0.out.mono ?_
 rintro e w1 ⟨rfl, hb1⟩
 have hx1 : w1.heap[w.heap.size]? = some _ := (hb1.block w.heap.size (by have := HZ0.out; omega)).trans HX0.out
 have hy1 : w1.heap[w.heap.size + 1]? = some _ := (hb1.block (w.heap.size + 1) (by have := HZ0.out; omega)).trans HY0.out
 have hz1 := hb1.size
 have HB1 := Lib.hid hb1
 clear hb1 q0 q1 q2
 have q0 : w1.cell? ⟨w.heap.size, 0, none⟩ = some (.int .i64 a.sets) := by rw [cell_of_row _ _ _ _ _ (0, 0) hx1]; rfl
 have q1 : w1.cell? ⟨w.heap.size, 1, none⟩ = some (.slice Ai ni ci) := by rw [cell_of_row _ _ _ _ _ (0, 0) hx1]; rfl
 have q2 : w1.cell? ⟨w.heap.size, 2, none⟩ = some (.slice An nn cn) := by rw [cell_of_row _ _ _ _ _ (0, 0) hx1]; rfl
 have r0 : w1.cell? ⟨w.heap.size + 1, 0, none⟩ = some (.slice A1 n1 c1) := by rw [cell_of_row _ _ _ _ _ (0, 0) hy1]; rfl
 have r1 : w1.cell? ⟨w.heap.size + 1, 1, none⟩ = some (.slice A2 n2 c2) := by rw [cell_of_row _ _ _ _ _ (0, 0) hy1]; rfl
 have HBB := Lib.hid (HB0.out.trans (HB1.out.mono (show w.heap.size ≤ W0.heap.size by have := HZ0.out; omega)))
 by_cases hck : chkA a = 0
 ·have HCK := Lib.hid hck
  obtain ⟨hn256, ⟨hs0, hs16⟩, hA, -⟩ := chk_iff.1 hck
  have HOK := Lib.hid hA
  rw [hck]
  have HWC := Lib.hid (pCheck_any A1 A2 n1 c1 n2 c2 st lo w1 HWR0.out.l1 HWR0.out.l2 hl)
  clear hck
  go_wp2_with fail
  refine HWC.out.mono ?_
  rintro e w2 ⟨rfl, hb2⟩
  by_cases h2 : n2 = 0
  ·have HB2 := Lib.hid (HBB.out.trans (hb2.mono (show w.heap.size ≤ w1.heap.size by have := HZ0.out; omega)))
   have HPP : Hid ((decide (chkA a = 0) && decide (0 < n2) && accB a W n1) = false) := Lib.hid (by rw [h2]; simp)
   rw [if_pos h2]
   clear hb2
   go_wp2_with fail
   go_ret
   exact ⟨ret_bool HPP.out.symm, HB2.out⟩
  ·have HB2 := Lib.hid hb2
   have hx2 : w2.heap[w.heap.size]? = some _ := (hb2.block w.heap.size (by have := HZ0.out; omega)).trans hx1
   have hy2 : w2.heap[w.heap.size + 1]? = some _ := (hb2.block (w.heap.size + 1) (by have := HZ0.out; omega)).trans hy1
   have hz2 := hb2.size
   rw [if_neg h2]
   clear hb2 q0 q1 q2 r0 r1 hx1 hy1
   obtain ⟨s, hss⟩ : ∃ s : Nat, a.sets = s := ⟨a.sets.toNat, by omega⟩
   rw [hss] at hx2
   have q0 : w2.cell? ⟨w.heap.size, 0, none⟩ = some (.int .i64 (s : Int)) := by rw [cell_of_row _ _ _ _ _ (0, 0) hx2]; rfl
   have q1 : w2.cell? ⟨w.heap.size, 1, none⟩ = some (.slice Ai ni ci) := by rw [cell_of_row _ _ _ _ _ (0, 0) hx2]; rfl
   have q2 : w2.cell? ⟨w.heap.size, 2, none⟩ = some (.slice An nn cn) := by rw [cell_of_row _ _ _ _ _ (0, 0) hx2]; rfl
   have r0 : w2.cell? ⟨w.heap.size + 1, 0, none⟩ = some (.slice A1 n1 c1) := by rw [cell_of_row _ _ _ _ _ (0, 0) hy2]; rfl
   have r1 : w2.cell? ⟨w.heap.size + 1, 1, none⟩ = some (.slice A2 n2 c2) := by rw [cell_of_row _ _ _ _ _ (0, 0) hy2]; rfl
   have HNN := Lib.hid HR0.out.enn
   have HR2 := Lib.hid ((HR0.out.below HB1.out (show B ≤ W0.heap.size by have := HZ0.out; omega)).below HB2.out (show B ≤ w1.heap.size by have := HZ0.out; omega))
   have HWR2 := Lib.hid ((HWR0.out.below HB1.out (show B ≤ W0.heap.size by have := HZ0.out; omega)).below HB2.out (show B ≤ w1.heap.size by have := HZ0.out; omega))
   have HAL := Lib.hid (along_any a s Ai ni ci An nn cn A1 A2 n1 c1 n2 c2 st lo W w2 B HR2.out HWR2.out (by have := HZ0.out; omega) HOK.out (by omega) hnd hri (by rw [← HNN.out] at hn256 ⊢; omega) (fun x hx => by have := hr x hx; omega) hl (by omega) hWl (hat (by omega)) h64)
   have HBC := Lib.hid (HBB.out.trans (HB2.out.mono (show w.heap.size ≤ w1.heap.size by have := HZ0.out; omega)))
   have HSS := Lib.hid hss
   have hlp : n1 < W.length := by omega
   clear hx2 hy2 hss
   go_wp2_with fail
   refine HAL.out.mono ?_
   rintro e w3 hp
   obtain ⟨pi, qi, ri, pe, qe, re, pl, ql, rl, pc, qc, rc, rfl, hpl, hb3⟩ := hp.open_
   have HB3 := Lib.hid hb3
   have hqi := hpl.eni
   have hqe := hpl.ene
   have hql := hpl.enl
   rw [alongE_len] at hqe
   rw [List.length_replicate] at hql
   have hqil : qi ≤ 100000000 := by
    rw [hqi]
    exact Nat.le_trans (List.length_filter_le _ _) hri
   have HST := Lib.hid (starts_any (alongI a W) (alongE a W n1) _ (alongN a (W.length * a.nodes.length)) s pi qi ri pe qe re pl ql rl pc qc rc w3.heap.size w3 hpl (Nat.le_refl _) (along_nd HOK.out hlp) (alongI_nd HOK.out hlp) (by rw [hqe, ← HNN.out]; exact hNE) KE (along_row hr) (by rw [hqe, ← HNN.out]; exact hKE) hK2 (by rw [alongN_len', alongE_len]) (alongN_lt hinn _) (by have := HSS.out; omega) (by omega) (by rw [hql, ← HNN.out]; omega))
   have HZZ := Lib.hid hb3.size
   have HPP : Hid ((decide (chkA a = 0) && decide (0 < n2) && accB a W n1) = startsB (alongI a W) (alongE a W n1) (alongN a (W.length * a.nodes.length)) s) := Lib.hid (by
    have e := starts_acc HOK.out hlp
    have e2 : a.sets.toNat = s := by have := HSS.out; omega
    rw [e2] at e
    rw [HCK.out, e, decide_eq_true (show 0 < n2 by omega)]; simp)
   clear hb3 hpl hqi hqe hql hp
   go_wp2_with fail
   refine HST.out.mono ?_
   rintro e w4 ⟨rfl, hb4⟩
   have HB4 := Lib.hid ((HBC.out.trans (HB3.out.mono (show w.heap.size ≤ w2.heap.size by have := HZ0.out; omega))).trans (hb4.mono (show w.heap.size ≤ w3.heap.size by have := HZ0.out; have := HZZ.out; omega)))
   clear hb4
   go_wp2_with fail
   go_ret
   exact ⟨ret_bool HPP.out.symm, HB4.out⟩
 ·have hne : ((chkA a) == 0) = false := by rw [beq_eq_false_iff_ne]; exact hck
  have HPP : Hid ((decide (chkA a = 0) && decide (0 < n2) && accB a W n1) = false) := Lib.hid (by rw [decide_eq_false hck]; rfl)
  go_wp2_with fail
  go_ret
  exact ⟨ret_bool HPP.out.symm, HBB.out⟩
set_option maxHeartbeats 2000000 in
set_option maxRecDepth 100000 in
theorem emptyP_any (a : Aut) (Ai : Option Addr) (ni ci : Nat) (An : Option Addr) (nn cn : Nat) (w : World) (B : Nat) (h : AutRd w B a Ai ni ci An nn cn) (hB : B ≤ w.heap.size)
  (hnd : ∀ x ∈ a.nodes, x.need < 2 ^ 64 ∧ x.ban < 2 ^ 64) (hinn : ∀ x ∈ a.nodes, x.inn < 2 ^ 64) (KE : Nat) (hr : ∀ x ∈ a.nodes, x.to.length ≤ KE) (hri : a.init.length ≤ 100000000) (hKE : KE ≤ 1000000) :
  Calls Tryd.prog 32 #[.agg #[.int .i64 a.sets, .slice Ai ni ci, .slice An nn cn]] w (Tru w (decide ((trimF a).init = []))) := by
 have hb0 : Below w.heap.size w (w.alloc (.cells #[.int .i64 a.sets, .slice Ai ni ci, .slice An nn cn] 25)) := (Below.refl _ _).alloc (Nat.le_refl _) _
 have x0 := heap_alloc_new w (.cells #[.int .i64 a.sets, .slice Ai ni ci, .slice An nn cn] 25)
 have z0 : (w.alloc (.cells #[.int .i64 a.sets, .slice Ai ni ci, .slice An nn cn] 25)).heap.size = w.heap.size + 1 := by simp
 obtain ⟨W0, hW0⟩ : ∃ W0, w.alloc (.cells #[.int .i64 a.sets, .slice Ai ni ci, .slice An nn cn] 25) = W0 := ⟨_, rfl⟩
 rw [hW0] at hb0 x0 z0
 have HR0 := Lib.hid (h.below hb0 hB)
 have HC0 := Lib.hid (autoCheck_any a Ai ni ci An nn cn W0 B HR0.out (by omega) hri (fun x hx => by have := hr x hx; omega))
 have HW0 := Lib.hid hW0
 have HB0 := Lib.hid hb0
 have HX0 := Lib.hid x0
 have HZ0 := Lib.hid z0
 clear hW0 hb0 x0 z0 h
 go_enter Tryd.func32, Tryd.ntmps32
 go_upto_region 1 with fail
 rw [HW0.out]
 have q0 : W0.cell? ⟨w.heap.size, 0, none⟩ = some (.int .i64 a.sets) := by rw [cell_of_row _ _ _ _ _ (0, 0) HX0.out]; rfl
 have q1 : W0.cell? ⟨w.heap.size, 1, none⟩ = some (.slice Ai ni ci) := by rw [cell_of_row _ _ _ _ _ (0, 0) HX0.out]; rfl
 have q2 : W0.cell? ⟨w.heap.size, 2, none⟩ = some (.slice An nn cn) := by rw [cell_of_row _ _ _ _ _ (0, 0) HX0.out]; rfl
 go_wp2_with fail
 refine HC0.out.mono ?_
 rintro e w1 ⟨rfl, hb1⟩
 have hx1 : w1.heap[w.heap.size]? = some _ := (hb1.block w.heap.size (by have := HZ0.out; omega)).trans HX0.out
 have hz1 := hb1.size
 have HB1 := Lib.hid hb1
 have HBB := Lib.hid (HB0.out.trans (HB1.out.mono (show w.heap.size ≤ W0.heap.size by have := HZ0.out; omega)))
 clear hb1 q0 q1 q2
 by_cases hck : chkA a = 0
 ·have HCK := Lib.hid hck
  obtain ⟨hn256, ⟨hs0, hs16⟩, hA, -⟩ := chk_iff.1 hck
  have HOK := Lib.hid hA
  obtain ⟨s, hss⟩ : ∃ s : Nat, a.sets = s := ⟨a.sets.toNat, by omega⟩
  rw [hss] at hx1
  have q0 : w1.cell? ⟨w.heap.size, 0, none⟩ = some (.int .i64 (s : Int)) := by rw [cell_of_row _ _ _ _ _ (0, 0) hx1]; rfl
  have q1 : w1.cell? ⟨w.heap.size, 1, none⟩ = some (.slice Ai ni ci) := by rw [cell_of_row _ _ _ _ _ (0, 0) hx1]; rfl
  have q2 : w1.cell? ⟨w.heap.size, 2, none⟩ = some (.slice An nn cn) := by rw [cell_of_row _ _ _ _ _ (0, 0) hx1]; rfl
  have HNN := Lib.hid HR0.out.enn
  have HR1 := Lib.hid (HR0.out.below HB1.out (show B ≤ W0.heap.size by have := HZ0.out; omega))
  have HOV := Lib.hid (over_any a s Ai ni ci An nn cn w1 B HR1.out (by have := HZ0.out; omega) HOK.out (by omega) hnd hri (by omega) (fun x hx => by have := hr x hx; omega))
  have HSS := Lib.hid hss
  rw [hck]
  clear hx1 hss hck
  go_wp2_with fail
  refine HOV.out.mono ?_
  rintro e w3 hp
  obtain ⟨pi, qi, ri, pe, qe, re, pl, ql, rl, pc, qc, rc, rfl, hpl, hb3⟩ := hp.open_
  have HB3 := Lib.hid hb3
  have hqi := hpl.eni
  have hqe := hpl.ene
  have hql := hpl.enl
  rw [openE_len] at hqe
  have hql' : ql = a.nodes.length := by rw [hql]; simp [needsA]
  have hqil : qi ≤ 100000000 := by
   rw [hqi]
   exact Nat.le_trans (List.length_filter_le _ _) hri
  have hqk : qe * KE ≤ 1000000000 := by
   have : qe * KE ≤ 256 * KE := Nat.mul_le_mul_right _ (by omega)
   omega
  have HST := Lib.hid (starts_any (openI a) (openE a) _ (insA a) s pi qi ri pe qe re pl ql rl pc qc rc w3.heap.size w3 hpl (Nat.le_refl _) (open_nd HOK.out) (openI_nd HOK.out) (by omega) KE (open_row hr) hqk hKE (by rw [insA_len, openE_len]) (ins_lt hinn) (by have := HSS.out; omega) (by omega) (by omega))
  have HZZ := Lib.hid hb3.size
  have HPP : Hid (decide ((trimF a).init = []) = !startsB (openI a) (openE a) (insA a) s) := Lib.hid (by
   have e := starts_open HOK.out
   have e2 : a.sets.toNat = s := by have := HSS.out; omega
   rw [e2] at e
   rw [e, Bool.not_not]
   unfold trimF
   rw [if_pos HCK.out])
  clear hb3 hpl hqi hqe hql hp hql' hqk hqil
  go_wp2_with fail
  refine HST.out.mono ?_
  rintro e w4 ⟨rfl, hb4⟩
  have HB4 := Lib.hid ((HBB.out.trans (HB3.out.mono (show w.heap.size ≤ w1.heap.size by have := HZ0.out; omega))).trans (hb4.mono (show w.heap.size ≤ w3.heap.size by have := HZ0.out; have := HZZ.out; omega)))
  clear hb4
  go_wp2_with fail
  go_ret
  exact ⟨ret_bool HPP.out.symm, HB4.out⟩
 ·have hne : ((chkA a) == 0) = false := by rw [beq_eq_false_iff_ne]; exact hck
  have HPP : Hid (decide ((trimF a).init = []) = true) := Lib.hid (by
   unfold trimF
   rw [if_neg hck]; rfl)
  have hne2 : ((chkA a) != 0) = true := by rw [bne_iff_ne]; exact hck
  have hne3 : decide (chkA a = 0) = false := decide_eq_false hck
  clear hck
  go_wp2_with fail
  go_ret
  exact ⟨ret_bool HPP.out.symm, HBB.out⟩
end Go.Proofs.YtiebpncpdbnelaaDoor
namespace Go.Proofs.YtiebpncpdbnelaaDoor
open Go.RowKit
set_option maxHeartbeats 4000000 in
set_option maxRecDepth 100000 in
theorem left30_any (u : List Bool) (l : List Int) (at_ : List Int) (A : Option Addr) (n c : Nat) (b1 b2 S q N : Nat) (Wd : List Nat) (Aa : Option Addr) (ca : Nat) (w : World) (B : Nat) (h1 : w.cell? ⟨b1, 0, none⟩ = some (.pointer (some ⟨S, 0, none⟩))) (hb1 : b1 < w.heap.size)
  (h2 : w.cell? ⟨b2, 0, none⟩ = some (.slice Aa N ca)) (hb2 : b2 < w.heap.size) (hX : BSet S q N Wd w) (hbit : ∀ i, i < N → bitOf Wd i = u.getD i false) (hat : ∀ i, i < N → u.getD i false = true → at_.getD i 0 = (numC u i : Int)) (hsa : Sl w B 1 Aa N ca (icells at_)) (hs : Sl w B 1 A n c (icells l)) (hB : B ≤ w.heap.size) (hl : ∀ t ∈ l, isNd N t = true) (hln : l.length ≤ 100000000) :
  Calls Tryd.prog 62 #[.slice A n c, .pointer (some ⟨b1, 0, none⟩), .pointer (some ⟨b2, 0, none⟩)] w (IntsPost w (keptL u l)) := by
 have hn : n = l.length := by have := hs.len; rw [icells_len] at this; omega
 have hnA : N = at_.length := by have := hsa.len; rw [icells_len] at this; omega
 have hcap := hs.cap
 have hmax := hs.max
 have hcapa := hsa.cap
 have hmaxa := hsa.max
 unfold maxLen at hmax hmaxa
 subst hn
 have HS := Lib.hid hs
 have HSA := Lib.hid hsa
 have HNA := Lib.hid hnA
 have HX := Lib.hid hX
 have H1 := Lib.hid h1
 have H2 := Lib.hid h2
 have HBIT := Lib.hid hbit
 have HAT := Lib.hid hat
 have HL := Lib.hid hl
 clear hs hsa hnA hX h1 h2 hbit hat hl
 go_enter Tryd.func62, Tryd.ntmps62
 go_wp2_with fail
 go_loopw [10, 5] (fun i o wr => ∃ m : Nat, m ≤ l.length ∧ i = .int .i64 (m : Int) ∧ Hid (wr.ownsRow w.heap.size 3 1 o (keptL u (l.take m)).length (icells (keptL u (l.take m)))) ∧ Hid (Below w.heap.size w wr)) (fun i _ _ => l.length - (intOf i).toNat)
 case atStart => exact ⟨0, by omega, rfl, Lib.hid (World.ownsRow_nil _ _ _ _), Lib.hid (Below.refl _ _)⟩
 case round =>
  obtain ⟨m, hm, rfl, HO, HB⟩ := hrel
  have hz := HB.out.size
  by_cases hlt : m < l.length
  ·have wm : IntKind.i64.wrap ((m : Int) + 1) = (m : Int) + 1 := by rw [IntKind.wrap_i64]; omega
   have hm0 : (0 : Int) ≤ (m : Int) := by omega
   have hm1 : (m : Int) < (l.length : Int) := by omega
   obtain ⟨b, off, rfl, hbl, hcl⟩ := rd_intS (HS.out.below HB.out hB) hlt
   obtain ⟨j, hj, hjN⟩ := isNd_nat (HL.out l[m] (List.getElem_mem hlt))
   have HSN := Lib.hid (keptL_snoc (u := u) hlt)
   have hXr := HX.out.below HB.out
   have HH := Lib.hid (bhas_any S q N Wd j wr hXr hjN)
   have c1 : wr.cell? ⟨b1, 0, none⟩ = some (.pointer (some ⟨S, 0, none⟩)) := (HB.out.cell (p := ⟨b1, 0, none⟩) hb1).trans H1.out
   have c2 : wr.cell? ⟨b2, 0, none⟩ = some (.slice Aa N ca) := (HB.out.cell (p := ⟨b2, 0, none⟩) hb2).trans H2.out
   have hbt := HBIT.out j hjN
   have hat := HAT.out j hjN
   obtain ⟨bA, oA, rfl, hbA, hclA⟩ := rd_intS (k := j) (HSA.out.below HB.out hB) (by rw [← HNA.out]; exact hjN)
   have hgA : at_.getD j 0 = at_[j]'(by rw [← HNA.out]; exact hjN) := by rw [List.getD_eq_getElem?_getD, List.getElem?_eq_getElem (by rw [← HNA.out]; exact hjN)]; rfl
   have hj0 : (0 : Int) ≤ (j : Int) := by omega
   have hj1 : (j : Int) < (N : Int) := by omega
   rw [hj] at hcl HSN
   rw [Int.toNat_natCast] at HSN
   rw [← hgA] at hclA
   have hle : (keptL u (l.take m)).length ≤ m := Nat.le_trans keptL_le (by rw [List.length_take]; omega)
   clear hj hXr hgA
   go_wp2_with fail
   refine HH.out.mono ?_
   rw [hbt]
   cases hub : u.getD j false
   ·rintro e w' ⟨rfl, rfl⟩
    have HPx : Hid (keptL u (l.take (m + 1)) = keptL u (l.take m)) := Lib.hid (by rw [HSN.out, hub]; simp)
    clear hub hat hbt
    go_wp2_with fail
    exact ⟨⟨m + 1, by omega, congrArg (Value.int .i64) (by omega), Lib.hid (by rw [HPx.out]; exact HO.out), HB⟩, by simp [intOf]; omega⟩
   ·rintro e w' ⟨rfl, rfl⟩
    have HPx : Hid (keptL u (l.take (m + 1)) = keptL u (l.take m) ++ [(numC u j : Int)]) := Lib.hid (by rw [HSN.out, hub]; simp)
    rw [hat hub] at hclA
    clear hub hat hbt HSN
    generalize keptL u (l.take m) = Y at *
    obtain ⟨Au, cu, rfl, -⟩ := own_sl HO.out
    have hnw := Lib.hid (heap_alloc_new wr (.cells #[.int .i64 (numC u j : Int)] 3))
    go_wp2_with (at_builtin; refine wpList_push rfl (.tmp 17) (.tmp 22) 22 rfl w.heap.size 3 1 8 sliceInt _ _ _ (HO.out.alloc _) rfl wr.heap.size #[.int .i64 (numC u j : Int)] rfl hnw.out rfl (by simp [Value.oneCell']) (by omega) (by omega) (by simp; omega) ?_; intro u' wA hown3 ht3 hat3 hne3; obtain ⟨g', cap', rfl, _⟩ := own_form hown3 (by omega); have HOA := Lib.hid hown3; have HBA := Lib.hid (HB.out.trans ((Tch.trans ((Tch.refl _ wr).alloc _) ht3 (fun _ _ h => h)).below hz (fun k hk e => by have := (HO.out.lt k e).1; omega))))
    exact ⟨⟨m + 1, by omega, congrArg (Value.int .i64) (by omega), Lib.hid (by rw [HPx.out, List.length_append, icells_append]; simpa [icells] using HOA.out), HBA⟩, by simp [intOf]; omega⟩
  ·have hme : m = l.length := by omega
   have HO2 : Hid (wr.ownsRow w.heap.size 3 1 u5 (keptL u l).length (icells (keptL u l))) := Lib.hid (by have := HO.out; rwa [hme, List.take_length] at this)
   clear HO
   go_wp2_with fail
   go_ret
   exact ⟨_, rfl, HO2.out, HB.out⟩
end Go.Proofs.YtiebpncpdbnelaaDoor
namespace Go.Proofs.YtiebpncpdbnelaaDoor
open Go
section
variable {P : Program} {ops : Array Oper} {Q : Exit → Act → World → Prop} {md : Region.Mode} {S : World → Prop} {z : Nat}
def noDeferB (ops : Array Oper) : Bool := ops.toList.all (fun o => match o.op with | .defer _ => false | _ => true)
theorem noDefer_spec (h : noDeferB ops = true) {i : Nat} {o : Oper} (ho : ops[i]? = some o) : ∀ c, o.op ≠ .defer c := by
 intro c hc
 have hm : o ∈ ops.toList := by
  rw [← Array.getElem?_toList] at ho
  exact List.mem_of_getElem? ho
 have := List.all_eq_true.1 h o hm
 rw [hc] at this
 cases this
theorem rowsIn_wide' {r n : Nat} {row : String} {args : Array Value} {w : World} {R : Value → World → Prop} (h : Rows P row args w R) : RowsIn (Fence.wide.inRound r) n P row args w R :=
 fun c cs _ => let ⟨v, w', r', s⟩ := h c cs; ⟨v, w', r', stepsIn_wide.2 s⟩
theorem opIn_of {r n i : Nat} {K : Act → World → Prop} {a : Act} {w : World} (hd : noDeferB ops = true) (hl : ¬ LetsOut Q) (h : wpOp P ops Q i K a w) : wpOpIn (Fence.wide.inRound r) n P ops Q i K a w := by
 unfold wpOp at h
 unfold wpOpIn
 cases ho : ops[i]? with
 | none => rw [ho] at h; exact h
 | some o =>
  rw [ho] at h
  simp only at h ⊢
  split
  ·rename_i hw
   rw [if_pos hw] at h
   rcases h with h | h
   ·refine ⟨fun _ _ => trivial, ?_⟩
    rw [Oper.semAt_eq _ _ _ (noDefer_spec hd ho)]
    unfold Oper.wp at h
    revert h
    generalize (execOp a.eval o).run P w = res
    intro h
    cases res with
    | ok nx w' =>
     cases nx with
     | value v => exact h
     | skip => exact h
     | defer d => exact h
     | enter f args => exact ⟨fun hh => (by cases hh), CallsIn.inRound r (callsIn_wide.2 h)⟩
     | row row args => exact ⟨fun hh => (by cases hh), rowsIn_wide' h⟩
     | _ => exact h.elim
    | halt hh w' =>
     cases hh with
     | panic v => exact h
     | _ => exact h.elim
   ·exact absurd h.2 hl
  ·rename_i hw
   rw [if_neg hw] at h
   exact ⟨fun _ _ => trivial, h⟩
theorem anyIn_of {r n : Nat} (hd : noDeferB ops = true) (hl : ¬ LetsOut Q) : ∀ (fuel : Nat) (listed : Array Bool) (a : Act) (w : World), wpAny P md ops Q fuel listed a w → wpAnyIn (Fence.wide.inRound r) n P md ops Q fuel listed a w
 | 0, _, _, _, h => h
 | fuel + 1, _, _, _, h => ⟨h.1, fun i hi => wpOpIn_mono (fun a' w' h' => anyIn_of hd hl fuel _ a' w' h') (opIn_of hd hl (h.2 i hi))⟩
theorem wpIn_region_U {r n id : Nat} {a : Act} {w : World} (z : Nat) (hm : P.follows .mixedOrders = true) (hd : noDeferB ops = true) (hl : ¬ LetsOut Q) (hS : S w.drew)
  (h : S w.drew → wpAnyU P .any ops Q S z ops.size (Array.replicate ops.size false) a w.drew) : (Code.region id ops true).wpIn (Fence.wide.inRound r) n P Q a w :=
 wpIn_region_any hm (anyIn_of hd hl _ _ _ _ (wpAny_of_U _ _ _ _ (h hS)))
theorem wp_only {c : Code} {K : Act → World → Prop} {Q' : Exit → Act → World → Prop} {a : Act} {w : World} (h : c.wp P (Exit.then K (fun _ _ _ => False)) a w) : c.wp P (Exit.then K Q') a w :=
 wp_mono h (fun e a w hq => by cases e <;> first | exact hq | exact hq.elim)
theorem wpIn_norm {F : Fence} {n : Nat} {c : Code} {Q' : Exit → Act → World → Prop} {a : Act} {w : World} (h : c.wpIn F n P (Exit.then (fun a w => Q' .normal a w) (fun _ _ _ => False)) a w) : c.wpIn F n P Q' a w :=
 wpIn_mono h (fun e a w hq => by cases e <;> first | exact hq | exact hq.elim)
theorem postT_ok {α : Type} {I : List α × (Nat → Prop) → World → Prop} {Ix : Code → List α × (Nat → Prop) → World → Prop} {xs : List α} {N N' : Nat → Prop} {W W' : World} {a : Act} (h1 : Rnd N W N' W') (h2 : I (xs, N') W') : postT I Ix xs N W .normal a W' := ⟨N', h1, h2⟩
theorem lets_none {K : Act → World → Prop} : ¬ LetsOut (Exit.then K (fun _ _ _ => False)) := fun ⟨_, _, h⟩ => h
end
end Go.Proofs.YtiebpncpdbnelaaDoor
