/- Texts that stand one behind the other, in one file. -/
import Derived.Test.YtiebpncpdbnelaaDoorMk
import Derived.Test.YtiebpncpdbnelaaDoorAt6
import Derived.Test.YtiebpncpdbnelaaDoorZbz
import Derived.Test.YtiebpncpdbnelaaDoorRows
import Derived.Test.YtiebpncpdbnelaaDoorZah
import Derived.ShutString
import Derived.OpenShut
import Derived.Test.YtiebpncpdbnelaaDoorZag
import Derived.Test.YtiebpncpdbnelaaDoorZbo
import Derived.Test.YtiebpncpdbnelaaDoorTie
import Derived.Test.YtiebpncpdbnelaaDoorCards
import Derived.SevenTiedAt
import Derived.ProofKit
import Derived.LaidMore
import Derived.Lib.LaidTab
import Derived.RangeFuncOwn
import Derived.Shelf.Spec.TrailingZeros
namespace Go.Proofs.YtiebpncpdbnelaaDoor
open Go.RowKit
set_option maxHeartbeats 2000000 in
set_option maxRecDepth 100000 in
theorem takesN_any (a : Aut) (Ai : Option Addr) (ni ci : Nat) (An : Option Addr) (nn cn : Nat) (A1 A2 : Option Addr) (n1 c1 n2 c2 : Nat) (st lo : List Int) (w : World) (B : Nat) (h : AutRd w B a Ai ni ci An nn cn) (hw : WRd w B A1 A2 n1 c1 n2 c2 st lo) (hB : B ≤ w.heap.size) (hl : n1 + n2 ≤ 60000) (hno : ¬ (chkA a = 0 ∧ 0 < n2)) :
  Calls Tryd.prog 20 #[.agg #[.int .i64 a.sets, .slice Ai ni ci, .slice An nn cn], .agg #[.slice A1 n1 c1, .slice A2 n2 c2]] w (Tru w false) := by
 obtain ⟨hb0, x0, y0, z0⟩ := two_new w (.cells #[.int .i64 a.sets, .slice Ai ni ci, .slice An nn cn] 25) (.cells #[.slice A1 n1 c1, .slice A2 n2 c2] 29)
 obtain ⟨W0, hW0⟩ : ∃ W0, (w.alloc (.cells #[.int .i64 a.sets, .slice Ai ni ci, .slice An nn cn] 25)).alloc (.cells #[.slice A1 n1 c1, .slice A2 n2 c2] 29) = W0 := ⟨_, rfl⟩
 rw [hW0] at hb0 x0 y0 z0
 have HCK := Lib.hid (chkR_any a Ai ni ci An nn cn W0 B (h.below hb0 hB) (by omega))
 have HWC := Lib.hid (fun w' => rCheck_any A1 A2 n1 c1 n2 c2 st lo w' hw.l1 hw.l2 hl)
 have HW0 := Lib.hid hW0
 have HB0 := Lib.hid hb0
 have HY0 := Lib.hid y0
 have hq : w.heap.size + 1 < W0.heap.size := by omega
 have hq0 : w.heap.size ≤ W0.heap.size := by omega
 have q0 : W0.cell? ⟨w.heap.size, 0, none⟩ = some (.int .i64 a.sets) := by rw [cell_of_row _ _ _ _ _ (0, 0) x0]; rfl
 have q1 : W0.cell? ⟨w.heap.size, 1, none⟩ = some (.slice Ai ni ci) := by rw [cell_of_row _ _ _ _ _ (0, 0) x0]; rfl
 have q2 : W0.cell? ⟨w.heap.size, 2, none⟩ = some (.slice An nn cn) := by rw [cell_of_row _ _ _ _ _ (0, 0) x0]; rfl
 clear hW0 hb0 x0 y0 z0 h hw hB hl
 go_enter Tryd.func20, Tryd.ntmps20
 go_upto_region 1 with fail
 rw [HW0.out]
 by_cases hck : chkA a = 0
 ·have hn2 : n2 = 0 := by
   by_cases e : n2 = 0
   ·exact e
   ·exact absurd ⟨hck, by omega⟩ hno
  have hwc := fun w' => HWC.out w'
  rw [if_pos hn2] at hwc
  have HWC2 := Lib.hid hwc
  have hc1 := HCK.out
  rw [hck] at hc1
  have HCK2 := Lib.hid hc1
  clear hwc hc1 hn2 hck hno HWC HCK
  go_wp2_with fail
  refine HCK2.out.mono ?_
  rintro e w1 ⟨rfl, hb1⟩
  have HB1 := Lib.hid (HB0.out.trans (hb1.mono hq0))
  have p0 : w1.cell? ⟨w.heap.size + 1, 0, none⟩ = some (.slice A1 n1 c1) := by rw [cell_of_row _ _ _ _ _ (0, 0) ((hb1.block (w.heap.size + 1) hq).trans HY0.out)]; rfl
  have p1 : w1.cell? ⟨w.heap.size + 1, 1, none⟩ = some (.slice A2 n2 c2) := by rw [cell_of_row _ _ _ _ _ (0, 0) ((hb1.block (w.heap.size + 1) hq).trans HY0.out)]; rfl
  have hz1 := hb1.size
  clear hb1 q0 q1 q2
  go_wp2_with fail
  refine (HWC2.out _).mono ?_
  rintro e w2 ⟨rfl, hb2⟩
  have HB2 := Lib.hid (HB1.out.trans (hb2.mono (show w.heap.size ≤ w1.heap.size by omega)))
  clear hb2 p0 p1
  go_wp2_with fail
  go_ret
  exact ⟨rfl, HB2.out⟩
 ·have hne : ((chkA a) == 0) = false := by rw [beq_eq_false_iff_ne]; exact hck
  have hne2 : ((chkA a) != 0) = true := by rw [bne_iff_ne]; exact hck
  have hne3 : decide (chkA a = 0) = false := decide_eq_false hck
  clear hck hno
  go_wp2_with fail
  refine HCK.out.mono ?_
  rintro e w1 ⟨rfl, hb1⟩
  have HB1 := Lib.hid (HB0.out.trans (hb1.mono hq0))
  clear hb1 q0 q1 q2
  go_wp2_with fail
  go_ret
  exact ⟨rfl, HB1.out⟩
theorem takesR_any (a : Aut) (Ai : Option Addr) (ni ci : Nat) (An : Option Addr) (nn cn : Nat) (A1 A2 : Option Addr) (n1 c1 n2 c2 : Nat) (st lo : List Int) (w : World) (B : Nat) (h : AutRd w B a Ai ni ci An nn cn) (hw : WRd w B A1 A2 n1 c1 n2 c2 st lo) (hB : B ≤ w.heap.size) (hl : n1 + n2 ≤ 2000) (hNE : nn * (n1 + n2) ≤ 65536)
  (h1 : ∀ n ∈ st, 0 ≤ n ∧ n < 18446744073709551616) (h2 : ∀ n ∈ lo, 0 ≤ n ∧ n < 18446744073709551616) (hnd : ∀ x ∈ a.nodes, x.need < 2 ^ 64 ∧ x.ban < 2 ^ 64) (KB : Nat) (hr : ∀ x ∈ a.nodes, x.to.length ≤ KB) (hri : a.init.length ≤ KB) (hKB : nn * (n1 + n2) * KB ≤ 1000000000) (hKB2 : KB ≤ 1000000000) :
  Calls Tryd.prog 20 #[.agg #[.int .i64 a.sets, .slice Ai ni ci, .slice An nn cn], .agg #[.slice A1 n1 c1, .slice A2 n2 c2]] w (Tru w (decide (chkA a = 0) && decide (0 < n2) && accB a (wordA st lo) n1)) := by
 by_cases hck : chkA a = 0
 ·by_cases hn2 : 0 < n2
  ·have hWl : n1 + n2 = (wordA st lo).length := by rw [wordA_len, ← hw.l1, ← hw.l2]
   refine (takes30L_any a Ai ni ci An nn cn A1 A2 n1 c1 n2 c2 st lo (wordA st lo) w B h hw hB hck hn2 hl hNE hWl (wordA_atW h1 h2) (wordA_lt h1 h2) hnd KB hr hri hKB hKB2).mono ?_
   rintro e w' ⟨z, hz, ht⟩
   rw [takesB_acc (chkA_of hck).2.2.2 (by omega) hz] at ht
   rw [decide_eq_true hck, decide_eq_true hn2, Bool.and_self, Bool.true_and]
   exact ht
  ·rw [decide_eq_false hn2, Bool.and_false, Bool.false_and]
   exact takesN_any a Ai ni ci An nn cn A1 A2 n1 c1 n2 c2 st lo w B h hw hB (by omega) (fun h => hn2 h.2)
 ·rw [decide_eq_false hck, Bool.false_and, Bool.false_and]
  exact takesN_any a Ai ni ci An nn cn A1 A2 n1 c1 n2 c2 st lo w B h hw hB (by omega) (fun h => hck h.1)
end Go.Proofs.YtiebpncpdbnelaaDoor
namespace Go.Proofs.YtiebpncpdbnelaaDoor
theorem own : ownKnob Tryd.prog.godebug = none := by kernel_rfl
theorem laidOut : laidOutB Tryd.prog = true := by kernel_rfl
theorem bd_u64 {x : Int} (h : (Lit.int .u64 x).wf = true) : 0 ≤ x ∧ x ≤ 18446744073709551615 := by
 simp [Lit.wf, IntKind.min, IntKind.max, IntKind.signed, IntKind.bits] at h
 omega
end Go.Proofs.YtiebpncpdbnelaaDoor
namespace Go.Proofs.YtiebpncpdbnelaaDoor
open Go.ChangeShapes Go.WideShapes Go.ChangeAt Go.RowKit Go.Deep
def acells (l : List (ANd × Value)) : List Value := l.flatMap fun x => [.int .u64 (x.1.need : Int), .int .u64 (x.1.ban : Int), .int .u64 (x.1.inn : Int), x.2]
theorem acells_len (l : List (ANd × Value)) : (acells l).length = l.length * 4 := by
 induction l with
 | nil => rfl
 | cons x r ih => simp [acells] at ih ⊢; omega
theorem acells0 (l : List (ANd × Value)) (k : Nat) : (acells l)[k * 4]? = l[k]?.map fun x => .int .u64 (x.1.need : Int) := by
 induction l generalizing k with
 | nil => simp [acells]
 | cons x r ih => cases k with
  | zero => simp [acells]
  | succ k => have := ih k; simp [acells, Nat.succ_mul] at this ⊢; exact this
theorem acells1 (l : List (ANd × Value)) (k : Nat) : (acells l)[k * 4 + 1]? = l[k]?.map fun x => .int .u64 (x.1.ban : Int) := by
 induction l generalizing k with
 | nil => simp [acells]
 | cons x r ih => cases k with
  | zero => simp [acells]
  | succ k => have := ih k; simp [acells, Nat.succ_mul] at this ⊢; exact this
theorem acells2 (l : List (ANd × Value)) (k : Nat) : (acells l)[k * 4 + 2]? = l[k]?.map fun x => .int .u64 (x.1.inn : Int) := by
 induction l generalizing k with
 | nil => simp [acells]
 | cons x r ih => cases k with
  | zero => simp [acells]
  | succ k => have := ih k; simp [acells, Nat.succ_mul] at this ⊢; exact this
theorem acells3 (l : List (ANd × Value)) (k : Nat) : (acells l)[k * 4 + 3]? = l[k]?.map fun x => x.2 := by
 induction l generalizing k with
 | nil => simp [acells]
 | cons x r ih => cases k with
  | zero => simp [acells]
  | succ k => have := ih k; simp [acells, Nat.succ_mul] at this ⊢; exact this
def ANdOk (x : ANd) : Prop := x.need < 2 ^ 64 ∧ x.ban < 2 ^ 64 ∧ x.inn < 2 ^ 64 ∧ x.to.length ≤ 17592186044416 ∧ ∀ n ∈ x.to, (Lit.int .i64 n).wf = true
theorem nat_u64 {x : Int} (h : (Lit.int .u64 x).wf = true) : ∃ k : Nat, x = k ∧ k < 2 ^ 64 := by
 have := bd_u64 h
 exact ⟨x.toNat, by omega, by omega⟩
section
variable {H : Type} {enc : TypeId × Value → H} {P : Program} {w : World} {base : Nat} {spare : Nat → Bool} {held : Bool}
theorem open_anodes {t e te : TypeId} {f0 f1 f2 f3 : Field} {fuel : Nat} {cs : List Value} {x : DataW H × List MemPlace} (ht : P.underlying t = some (.slice e)) (he : P.underlying e = some (.struct #[f0, f1, f2, f3])) (hone : oneCellFields P #[f0, f1, f2, f3] = true) (hC : P.cellsOf e = 4)
  (h0 : P.underlying f0.type = some (.int .u64)) (h1 : P.underlying f1.type = some (.int .u64)) (h2 : P.underlying f2.type = some (.int .u64)) (h3 : P.underlying f3.type = some (.slice te)) (hte : P.cellsOf te = 1) (hti : P.underlying te = some (.int .i64)) (hb8 : P.bytesOf te = 8)
  (h : DataW.trod enc P w base spare held fuel t cs = some x) (hsm : Small P t x.1) :
  ∃ (A : Option Addr) (c : Nat) (l : List (ANd × Value)), cs = [.slice A l.length c] ∧ Sl w w.heap.size 4 A l.length c (acells l) ∧ (∀ y ∈ l, ∃ A' c', y.2 = .slice A' y.1.to.length c' ∧ Sl w w.heap.size 1 A' y.1.to.length c' (icells y.1.to)) ∧ (∀ y ∈ l, ANdOk y.1) ∧ l.length * P.bytesOf e ≤ reachBytes := by
 rcases open_slice ht h with ⟨hcs, _⟩ | ⟨a, len, cap, m, n, D, Pl, hcs, hb, hl, hm, hmm, hx, hi⟩
 ·exact ⟨none, 0, [], hcs, Sl.none_ _ _ _, by simp, by simp, by simp⟩
 ·have hlm : len ≤ m := by rw [hmm]; split <;> omega
  rw [hx] at hsm
  obtain ⟨hs1, hs2⟩ := small_slice ht hsm
  have key : ∀ i, i < len → ∃ y : ANd × Value, w.cell? (a.add (i * 4)) = some (.int .u64 (y.1.need : Int)) ∧ w.cell? (a.add (i * 4 + 1)) = some (.int .u64 (y.1.ban : Int)) ∧ w.cell? (a.add (i * 4 + 2)) = some (.int .u64 (y.1.inn : Int)) ∧ w.cell? (a.add (i * 4 + 3)) = some y.2 ∧
    (∃ A' c', y.2 = .slice A' y.1.to.length c' ∧ Sl w w.heap.size 1 A' y.1.to.length c' (icells y.1.to)) ∧ ANdOk y.1 := by
   intro i hlt
   obtain ⟨cs', hc, hd⟩ := hi i (by omega)
   rw [hC] at hc
   obtain ⟨_, hcl, hat⟩ := World.cells?_some hc
   obtain ⟨ys, n', _, hD, _, hyl, hf⟩ := DataW.trod_struct he hd
   have hyl4 : ys.length = 4 := hyl
   have hsi := hs2 (D i) (List.mem_map.2 ⟨i, List.mem_range.2 hlt, rfl⟩)
   have hDi : D i = .agg (ys.map (·.1)) := congrArg Prod.fst hD
   rw [hDi] at hsi
   obtain ⟨o0, k0⟩ := hone_of hone 0 f0 rfl
   obtain ⟨o1, k1⟩ := hone_of hone 1 f1 rfl
   obtain ⟨o2, k2⟩ := hone_of hone 2 f2 rfl
   obtain ⟨o3, k3⟩ := hone_of hone 3 f3 rfl
   match cs', hcl with
   | [u0, u1, u2, u3], _ =>
    have e0 := hf 0 f0 rfl
    have e1 := hf 1 f1 rfl
    have e2 := hf 2 f2 rfl
    have e3 := hf 3 f3 rfl
    rw [o0, k0] at e0
    rw [o1, k1] at e1
    rw [o2, k2] at e2
    rw [o3, k3] at e3
    have g0 := hat 0 (by omega)
    have g1 := hat 1 (by omega)
    have g2 := hat 2 (by omega)
    have g3 := hat 3 (by omega)
    rw [add_add] at g0 g1 g2 g3
    have hq : ∀ j, j < 4 → ∃ q, ys[j]? = some q := fun j hj => ⟨_, List.getElem?_eq_getElem (by omega)⟩
    obtain ⟨q0, hq0⟩ := hq 0 (by omega)
    obtain ⟨q1, hq1⟩ := hq 1 (by omega)
    obtain ⟨q2, hq2⟩ := hq 2 (by omega)
    obtain ⟨q3, hq3⟩ := hq 3 (by omega)
    rw [hq0] at e0
    rw [hq1] at e1
    rw [hq2] at e2
    rw [hq3] at e3
    obtain ⟨p0, hp0, _, w0⟩ := DataW.trod_int h0 e0
    obtain ⟨p1, hp1, _, w1⟩ := DataW.trod_int h1 e1
    obtain ⟨p2, hp2, _, w2⟩ := DataW.trod_int h2 e2
    have hsm3 : Small P f3.type q3.1 := small_agg he hsi (i := 3) rfl (by rw [List.getElem?_map, hq3]; rfl)
    obtain ⟨A', c', tl, e4, s4, b4, wf4⟩ := open_nums h3 hte hti e3 hsm3
    simp at hp0 hp1 hp2 e4
    subst hp0; subst hp1; subst hp2; subst e4
    obtain ⟨n0, rfl, l0⟩ := nat_u64 w0
    obtain ⟨n1, rfl, l1⟩ := nat_u64 w1
    obtain ⟨n2, rfl, l2⟩ := nat_u64 w2
    rw [hb8] at b4
    simp only [reachBytes] at b4
    exact ⟨(⟨n0, n1, n2, tl⟩, .slice A' tl.length c'), by simpa using g0, by simpa using g1, by simpa using g2, by simpa using g3, ⟨A', c', rfl, s4⟩, l0, l1, l2, by dsimp only; omega, wf4⟩
  have key2 : ∀ k, k ≤ len → ∃ l : List (ANd × Value), l.length = k ∧ (∀ i (hi : i < l.length), w.cell? (a.add (i * 4)) = some (.int .u64 (l[i].1.need : Int)) ∧ w.cell? (a.add (i * 4 + 1)) = some (.int .u64 (l[i].1.ban : Int)) ∧ w.cell? (a.add (i * 4 + 2)) = some (.int .u64 (l[i].1.inn : Int)) ∧ w.cell? (a.add (i * 4 + 3)) = some l[i].2) ∧
    (∀ y ∈ l, ∃ A' c', y.2 = .slice A' y.1.to.length c' ∧ Sl w w.heap.size 1 A' y.1.to.length c' (icells y.1.to)) ∧ ∀ y ∈ l, ANdOk y.1 := by
   intro k
   induction k with
   | zero => intro _; exact ⟨[], rfl, fun i hi => by simp at hi, by simp, by simp⟩
   | succ k ih =>
    intro hk
    obtain ⟨f, hf, hc, hok, hok2⟩ := ih (by omega)
    obtain ⟨y, h1, h2, h3, h4, h5, h6⟩ := key k (by omega)
    refine ⟨f ++ [y], by simp [hf], fun i hi => ?_, fun x hx => ?_, fun x hx => ?_⟩
    ·by_cases hik : i < f.length
     ·rw [List.getElem_append_left hik]; exact hc i hik
     ·have : i = f.length := by simp at hi; omega
      subst this
      rw [List.getElem_append_right (Nat.le_refl _)]
      simp only [Nat.sub_self, List.getElem_cons_zero]
      rw [hf]; exact ⟨h1, h2, h3, h4⟩
    ·simp only [List.mem_append, List.mem_singleton] at hx
     rcases hx with hx | rfl
     ·exact hok x hx
     ·exact h5
    ·simp only [List.mem_append, List.mem_singleton] at hx
     rcases hx with hx | rfl
     ·exact hok2 x hx
     ·exact h6
  obtain ⟨f, hf, hc, hok, hok2⟩ := key2 len (Nat.le_refl _)
  refine ⟨some a, cap, f, by rw [hcs, hf], ⟨acells_len f, by omega, hm, (fun h => by cases h), rd_of_cells fun j u hj => ?_⟩, hok, hok2, by rw [hf]; simpa using hs1⟩
  have hjl : j < (acells f).length := (List.getElem?_eq_some_iff.1 hj).1
  rw [acells_len] at hjl
  have hq : j / 4 < f.length := by omega
  obtain ⟨c0, c1, c2, c3⟩ := hc (j / 4) hq
  have hr : j % 4 = 0 ∨ j % 4 = 1 ∨ j % 4 = 2 ∨ j % 4 = 3 := by omega
  rcases hr with hr | hr | hr | hr
  ·have e : j = j / 4 * 4 := by omega
   rw [e] at hj ⊢
   rw [acells0, List.getElem?_eq_getElem hq] at hj
   cases hj; exact c0
  ·have e : j = j / 4 * 4 + 1 := by omega
   rw [e] at hj ⊢
   rw [acells1, List.getElem?_eq_getElem hq] at hj
   cases hj; exact c1
  ·have e : j = j / 4 * 4 + 2 := by omega
   rw [e] at hj ⊢
   rw [acells2, List.getElem?_eq_getElem hq] at hj
   cases hj; exact c2
  ·have e : j = j / 4 * 4 + 3 := by omega
   rw [e] at hj ⊢
   rw [acells3, List.getElem?_eq_getElem hq] at hj
   cases hj; exact c3
theorem open_auto {r : Reach} {b0 : Nat} {t ti ti0 tn en te : TypeId} {f0 f1 f2 g0 g1 g2 g3 : Field} {v : Value} {d : DataW H} {p : List MemPlace} (hs : P.underlying t = some (.struct #[f0, f1, f2])) (hone : oneCellFields P #[f0, f1, f2] = true) (hC : P.cellsOf t = 3)
  (e0 : P.underlying f0.type = some (.int .i64)) (e1 : f1.type = ti) (e2 : f2.type = tn) (hti : P.underlying ti = some (.slice ti0)) (hci : P.cellsOf ti0 = 1) (hi0 : P.underlying ti0 = some (.int .i64)) (hbi : P.bytesOf ti0 = 8)
  (htn : P.underlying tn = some (.slice en)) (hen : P.underlying en = some (.struct #[g0, g1, g2, g3])) (honen : oneCellFields P #[g0, g1, g2, g3] = true) (hCn : P.cellsOf en = 4) (h0 : P.underlying g0.type = some (.int .u64)) (h1 : P.underlying g1.type = some (.int .u64)) (h2 : P.underlying g2.type = some (.int .u64)) (h3 : P.underlying g3.type = some (.slice te))
  (hte : P.cellsOf te = 1) (htei : P.underlying te = some (.int .i64)) (hbt : P.bytesOf te = 8) (hbn : P.bytesOf en = 48)
  (hv : Value.okWide P w r b0 t v) (h : DataW.Trod enc P w base spare held t v d p) (hsm : Small P t d) :
  ∃ (a : Aut) (Ai : Option Addr) (ni ci : Nat) (An : Option Addr) (nn cn : Nat), v = .agg #[.int .i64 a.sets, .slice Ai ni ci, .slice An nn cn] ∧ AutRd w w.heap.size a Ai ni ci An nn cn ∧ (Lit.int .i64 a.sets).wf = true ∧ a.init.length ≤ 17592186044416 ∧ (∀ n ∈ a.init, (Lit.int .i64 n).wf = true) ∧ a.nodes.length ≤ 2932031007402 ∧ ∀ x ∈ a.nodes, ANdOk x := by
 subst e1; subst e2
 obtain ⟨v0, v1, v2, y0, y1, y2, n, rfl, rfl, _, k0, k1, k2⟩ := Joins.open_agg3 hs hone hC hv h
 obtain ⟨s, hs0, _, ws⟩ := DataW.trod_int e0 k0
 obtain ⟨Ai, ci, li, a1, a2, a3, wi⟩ := open_nums hti hci hi0 k1 (small_agg hs hsm (i := 1) rfl rfl)
 obtain ⟨An, cn, ln, b1, b2, b3, b4, b5⟩ := open_anodes htn hen honen hCn h0 h1 h2 h3 hte htei hbt k2 (small_agg hs hsm (i := 2) rfl rfl)
 simp at hs0 a1 b1
 subst hs0; subst a1; subst b1
 rw [hbi] at a3
 rw [hbn] at b5
 simp only [reachBytes] at a3 b5
 refine ⟨⟨s, li, ln.map (·.1)⟩, Ai, li.length, ci, An, ln.length, cn, rfl, ⟨rfl, by simp, a2, acells ln, b2, fun k x hk => ?_⟩, ws, by dsimp only; omega, wi, by simp only [List.length_map]; omega, fun x hx => ?_⟩
 ·simp only [List.getElem?_map] at hk
  obtain ⟨y, hy, rfl⟩ := Option.map_eq_some_iff.1 hk
  obtain ⟨A', c', e4, s4⟩ := b3 y (List.mem_of_getElem? hy)
  exact ⟨A', c', by rw [acells0, hy]; rfl, by rw [acells1, hy]; rfl, by rw [acells2, hy]; rfl, by rw [acells3, hy, ← e4]; rfl, s4⟩
 ·obtain ⟨y, hy, rfl⟩ := List.mem_map.1 hx
  exact b4 y hy
end
end Go.Proofs.YtiebpncpdbnelaaDoor
namespace Go.Proofs.YtiebpncpdbnelaaDoor
open Go.RowKit
set_option maxHeartbeats 8000000 in
set_option maxRecDepth 100000 in
theorem AutoTakes_any (a : Aut) (Ai : Option Addr) (ni ci : Nat) (An : Option Addr) (nn cn : Nat) (A1 A2 : Option Addr) (n1 c1 n2 c2 : Nat) (st lo : List Int) (w : World) (hrd : AutRd w w.heap.size a Ai ni ci An nn cn) (hw : WRd w w.heap.size A1 A2 n1 c1 n2 c2 st lo) (hok : ∀ x ∈ a.nodes, ANdOk x) (_hsW : (Lit.int .i64 a.sets).wf = true) (hiL : a.init.length ≤ 17592186044416) (_hnL : a.nodes.length ≤ 2932031007402)
  (h1 : ∀ n ∈ st, (Lit.int .u64 n).wf = true) (h2 : ∀ n ∈ lo, (Lit.int .u64 n).wf = true) (_hl1 : st.length ≤ 17592186044416) (_hl2 : lo.length ≤ 17592186044416) (hT : TabAt 0 Lib.deBruijn64tab w) (hg : 0 < w.heap.size) :
  Calls Tryd.prog 9 #[.agg #[.int .i64 a.sets, .slice Ai ni ci, .slice An nn cn], .agg #[.slice A1 n1 c1, .slice A2 n2 c2]] w (Tru w true) := by
 obtain ⟨hb0, x0, y0, z0⟩ := two_new w (.cells #[.int .i64 a.sets, .slice Ai ni ci, .slice An nn cn] 25) (.cells #[.slice A1 n1 c1, .slice A2 n2 c2] 29)
 obtain ⟨W0, hW0⟩ : ∃ W0, (w.alloc (.cells #[.int .i64 a.sets, .slice Ai ni ci, .slice An nn cn] 25)).alloc (.cells #[.slice A1 n1 c1, .slice A2 n2 c2] 29) = W0 := ⟨_, rfl⟩
 rw [hW0] at hb0 x0 y0 z0
 have hq : w.heap.size + 1 < W0.heap.size := by omega
 have hq0 : w.heap.size ≤ W0.heap.size := by omega
 have HRD := Lib.hid (hrd.below hb0 (Nat.le_refl _))
 have HWD := Lib.hid (hw.below hb0 (Nat.le_refl _))
 have HW0 := Lib.hid hW0
 have HB0 := Lib.hid hb0
 have HOK := Lib.hid hok
 have HST := Lib.hid (fun n hn => by have := bd_u64 (h1 n hn); (exact (⟨by omega, by omega⟩ : 0 ≤ n ∧ n < 18446744073709551616)))
 have HLO := Lib.hid (fun n hn => by have := bd_u64 (h2 n hn); (exact (⟨by omega, by omega⟩ : 0 ≤ n ∧ n < 18446744073709551616)))
 have hnd : ∀ x ∈ a.nodes, x.need < 2 ^ 64 ∧ x.ban < 2 ^ 64 := fun x hx => ⟨(hok x hx).1, (hok x hx).2.1⟩
 have hinn : ∀ x ∈ a.nodes, x.inn < 2 ^ 64 := fun x hx => (hok x hx).2.2.1
 have HND := Lib.hid hnd
 have HINN := Lib.hid hinn
 have HNN := Lib.hid hrd.enn
 have HCL : Hid (∀ W', Below W0.heap.size W0 W' → W'.cell? ⟨w.heap.size, 0, none⟩ = some (.int .i64 a.sets) ∧ W'.cell? ⟨w.heap.size, 1, none⟩ = some (.slice Ai ni ci) ∧ W'.cell? ⟨w.heap.size, 2, none⟩ = some (.slice An nn cn) ∧ W'.cell? ⟨w.heap.size + 1, 0, none⟩ = some (.slice A1 n1 c1) ∧ W'.cell? ⟨w.heap.size + 1, 1, none⟩ = some (.slice A2 n2 c2)) := Lib.hid (fun W' hb => by
  have k0 := (hb.block w.heap.size (by omega)).trans x0
  have k1 := (hb.block (w.heap.size + 1) hq).trans y0
  refine ⟨?_, ?_, ?_, ?_, ?_⟩ <;> first | (rw [cell_of_row _ _ _ _ _ (0, 0) k0]; rfl) | (rw [cell_of_row _ _ _ _ _ (0, 0) k1]; rfl))
 have HAW : Hid (∀ W', Below W0.heap.size W0 W' → Calls Tryd.prog 25 #[] W' (Tru W' true)) := Lib.hid (fun W' hb => by
  have hbw := hb0.trans (hb.mono hq0)
  exact awake30_any W' (fun x hx => (hbw.cell (p := ⟨_, x, none⟩) hg).trans (hT x hx)) (Nat.lt_of_lt_of_le hg hbw.size))
 have HTB : Hid (∀ W', Below W0.heap.size W0 W' → TabAt 0 Lib.deBruijn64tab W' ∧ 0 < W'.heap.size) := Lib.hid (fun W' hb => by
  have hbw := hb0.trans (hb.mono hq0)
  exact ⟨fun x hx => (hbw.cell (p := ⟨_, x, none⟩) hg).trans (hT x hx), Nat.lt_of_lt_of_le hg hbw.size⟩)
 have HHV := Lib.hid (heavy30_any a Ai ni ci An nn cn A1 n1 c1 A2 n2 c2 W0 w.heap.size HRD.out hq0)
 have hl1' := hw.l1
 have hl2' := hw.l2
 have HL1 := Lib.hid hl1'
 have HL2 := Lib.hid hl2'
 clear hW0 hb0 x0 y0 z0 hrd hw hok hnd hinn h1 h2 hT hg hl1' hl2'
 go_enter Tryd.func9, Tryd.ntmps9
 go_upto_region 1 with fail
 rw [HW0.out]
 obtain ⟨q0, q1, q2, p0, p1⟩ := HCL.out W0 (Below.refl _ _)
 go_wp2_with fail
 refine HHV.out.mono ?_
 rintro e w1 ⟨rfl, hb1⟩
 have hz1 := hb1.size
 have HB1 := Lib.hid hb1
 clear q0 q1 q2 p0 p1 hb1
 cases hh : heavy30 a n1 n2
 rotate_left 1
 ·have HAW1 := Lib.hid (HAW.out w1 HB1.out)
  clear hh
  go_wp2_with fail
  refine HAW1.out.mono ?_
  rintro e w2 ⟨rfl, hb2⟩
  have HB2 := Lib.hid (HB0.out.trans ((HB1.out.trans (hb2.mono hz1)).mono hq0))
  clear hb2
  go_wp2_with fail
  go_ret
  exact ⟨rfl, HB2.out⟩
 ·obtain ⟨hc1, hc2, hc3, hc4, hc5⟩ := heavy30_bd hh
  have HC5 := Lib.hid hc5
  have hnn : nn ≤ 24 := by rw [HNN.out]; exact hc1
  clear hh hc5
  have hwl : (wordA st lo).length = n1 + n2 := by rw [wordA_len, ← HL1.out, ← HL2.out]
  have hk0 : nn * (n1 + n2) ≤ 24 * 24 := Nat.mul_le_mul hnn (by omega)
  have hk1 : nn * (n1 + n2) * 60 ≤ 24 * 24 * 60 := Nat.mul_le_mul_right _ hk0
  have hk2 : (n1 + n2) * nn ≤ 24 * 24 := by rw [Nat.mul_comm]; exact hk0
  have hk3 : (n1 + n2) * nn * 60 ≤ 24 * 24 * 60 := Nat.mul_le_mul_right _ hk2
  obtain ⟨tv, htv⟩ : ∃ b, (decide (chkA a = 0) && decide (0 < n2) && accB a (wordA st lo) n1) = b := ⟨_, rfl⟩
  have HTP : Hid (∀ W', Below W0.heap.size W0 W' → Calls Tryd.prog 28 #[.agg #[.int .i64 a.sets, .slice Ai ni ci, .slice An nn cn], .agg #[.slice A1 n1 c1, .slice A2 n2 c2]] W' (Tru W' tv)) := Lib.hid (fun W' hb => by
   have h := takesP_any a Ai ni ci An nn cn A1 A2 n1 c1 n2 c2 st lo (wordA st lo) W' w.heap.size (HRD.out.below hb hq0) (HWD.out.below hb hq0) (Nat.le_trans hq0 hb.size) HND.out HINN.out 60 HC5.out (by omega) (by omega) hwl.symm (fun _ => wordA_atW HST.out HLO.out) (wordA_lt HST.out HLO.out) (by rw [hwl]; omega) (by rw [hwl]; omega) (by omega)
   rw [htv] at h
   exact h)
  have HTR : Hid (∀ W', Below W0.heap.size W0 W' → Calls Tryd.prog 20 #[.agg #[.int .i64 a.sets, .slice Ai ni ci, .slice An nn cn], .agg #[.slice A1 n1 c1, .slice A2 n2 c2]] W' (Tru W' tv)) := Lib.hid (fun W' hb => by
   have h := takesR_any a Ai ni ci An nn cn A1 A2 n1 c1 n2 c2 st lo W' w.heap.size (HRD.out.below hb hq0) (HWD.out.below hb hq0) (Nat.le_trans hq0 hb.size) (by omega) (by omega) HST.out HLO.out HND.out 60 HC5.out (by omega) (by omega) (by omega)
   rw [htv] at h
   exact h)
  obtain ⟨s0, s1, s2, s3, s4⟩ := HCL.out w1 HB1.out
  have htt : (tv == tv) = true := by cases tv <;> rfl
  clear htv
  go_upto_region 3 with fail
  refine wp_region_held_drew (S := fun w' => w'.cell? ⟨w.heap.size, 0, none⟩ = some (.int .i64 a.sets) ∧ w'.cell? ⟨w.heap.size, 1, none⟩ = some (.slice Ai ni ci) ∧ w'.cell? ⟨w.heap.size, 2, none⟩ = some (.slice An nn cn) ∧ w'.cell? ⟨w.heap.size + 1, 0, none⟩ = some (.slice A1 n1 c1) ∧ w'.cell? ⟨w.heap.size + 1, 1, none⟩ = some (.slice A2 n2 c2)) (by kernel_rfl) ⟨s0, s1, s2, s3, s4⟩ (fun hS => ?_)
  refine tkH 0 rfl hS ?_
  refine tkH 1 rfl hS ?_
  refine tkH 3 rfl hS ?_
  refine tkH 4 rfl hS ?_
  refine wpAnyH_oneD (i := 2) rfl (by kernel_rfl) (fun K hK => ?_)
  go_simp
  refine (HTP.out _ (Below.drew HB1.out)).mono ?_
  rintro e w2 ⟨rfl, hb'⟩
  have hb2 : Below W0.heap.size W0 w2 := ((Below.drew HB1.out)).trans (hb'.mono ((Below.drew HB1.out)).size)
  clear hb'
  dsimp only
  refine hK.out _ _ (HCL.out _ hb2) (fun hS => ?_)
  clear hK
  try simp only [Act.put, List.setIfInBounds_toArray, List.set_cons_zero, List.set_cons_succ]
  refine wpAnyH_oneD (i := 5) rfl (by kernel_rfl) (fun K hK => ?_)
  go_simp
  refine (HTR.out _ hb2).mono ?_
  rintro e w3 ⟨rfl, hb'⟩
  have hb3 : Below W0.heap.size W0 w3 := (hb2).trans (hb'.mono (hb2).size)
  clear hb'
  dsimp only
  refine hK.out _ _ (HCL.out _ hb3) (fun hS => ?_)
  clear hK
  try simp only [Act.put, List.setIfInBounds_toArray, List.set_cons_zero, List.set_cons_succ]
  refine tkH 6 rfl hS ?_
  refine tkH 7 rfl hS ?_
  refine wpAnyH_oneD (i := 8) rfl (by kernel_rfl) (fun K hK => ?_)
  go_simp
  refine (HAW.out _ hb3).mono ?_
  rintro e w4 ⟨rfl, hb'⟩
  have hb4 : Below W0.heap.size W0 w4 := (hb3).trans (hb'.mono (hb3).size)
  clear hb'
  dsimp only
  refine hK.out _ _ (HCL.out _ hb4) (fun hS => ?_)
  clear hK
  try simp only [Act.put, List.setIfInBounds_toArray, List.set_cons_zero, List.set_cons_succ]
  refine tkH 9 rfl hS ?_
  refine tkH 10 rfl hS ?_
  refine wpAnyH_done (by kernel_rfl) ?_ _
  clear hS
  have HBF := Lib.hid (HB0.out.trans (hb4.mono hq0))
  go_wp2_with fail
  go_ret
  exact ⟨rfl, HBF.out⟩
end Go.Proofs.YtiebpncpdbnelaaDoor
namespace Go.Proofs.YtiebpncpdbnelaaDoor
open Go.ChangeShapes Go.WideShapes Go.ChangeAt Go.RowKit Go.Shelf
theorem door_met (os : Os) (args : Array Value) : laidMetH Tryd.prog [("math/bits.deBruijn64tab", Rows.laid_math_bits_deBruijn64tab)] ((World.doorLaid Tryd.prog 14 os).forCall (fun _ _ => 0) ⟨#[], args, []⟩).memory :=
 laidMetH_of_parts3 (fuel := 8) (laidMet_of_run' 8 (by kernel_rfl) (by kernel_rfl)) (by kernel_rfl) (by kernel_rfl)
theorem gTab : Tryd.prog.globalNamed "math/bits.deBruijn64tab" = some 0 := by kernel_rfl
theorem tTab : (Tryd.prog.globals[0]?).map (·.type) = some 137 := by kernel_rfl
def tabI : List Int := Lib.deBruijn64tab.map (fun (n : Nat) => (n : Int))
theorem tab_of_laid {W : World} (h : laidMetH Tryd.prog [("math/bits.deBruijn64tab", Rows.laid_math_bits_deBruijn64tab)] W) : TabAt 0 Lib.deBruijn64tab W ∧ 0 < W.heap.size := by
 rw [MakeChecks.laidMetH_plain _ _ _ (by kernel_rfl)] at h
 have e : ([("math/bits.deBruijn64tab", Rows.laid_math_bits_deBruijn64tab)] : List (String × DataW Unit)) = [("math/bits.deBruijn64tab", Lib.tabData .u8 tabI)] := by rfl
 rw [e] at h
 have hI := Lib.tabIs_of_head gTab tTab Tryd.underlying137 Tryd.underlying5 (by kernel_rfl) (by kernel_rfl) h
 have hT : TabAt 0 Lib.deBruijn64tab W := fun j hj => by
  have := hI.cell gTab j (by simpa [tabI] using hj)
  rw [this]
  simp [tabI, List.getD, hj]
 refine ⟨hT, ?_⟩
 obtain ⟨o, ho, _⟩ := cells_of_cell (hT 0 (by decide))
 exact (Array.getElem?_eq_some_iff.1 ho).1
theorem no_stand_in {P : Program} {ts : Array TypeId} {t : TypeId} (hm : t ∈ ts) (h : (ts.toList.all fun u => !P.wantsStandIn u) = true) : P.wantsStandIn t = false := by
 have := List.all_eq_true.1 h t (by simpa using hm)
 simpa using this
end Go.Proofs.YtiebpncpdbnelaaDoor
