/- Texts that stand one behind the other, in one file. -/
import Derived.Test.YtiebpncpdbnelaaDoorMk
import Derived.Test.YtiebpncpdbnelaaDoorRows
import Derived.Test.YtiebpncpdbnelaaDoorZag
import Derived.ShutString
import Derived.OpenShut
import Derived.Test.YtiebpncpdbnelaaDoorZaf
import Derived.Test.YtiebpncpdbnelaaDoorZbx
import Derived.Test.YtiebpncpdbnelaaDoorAt6
import Derived.Test.YtiebpncpdbnelaaDoorZbm
import Derived.Test.YtiebpncpdbnelaaDoorAr3
import Derived.Test.YtiebpncpdbnelaaDoorZau
import Derived.Test.YtiebpncpdbnelaaDoorTie
import Derived.Test.YtiebpncpdbnelaaDoorCards
import Derived.SevenTiedAt
import Derived.ProofKit
import Derived.LaidMore
import Derived.Lib.LaidTab
import Derived.RangeFuncOwn
import Derived.Shelf.Spec.TrailingZeros
namespace Go.Proofs.YtiebpncpdbnelaaDoor
theorem own : ownKnob Tryd.prog.godebug = none := by kernel_rfl
theorem laidOut : laidOutB Tryd.prog = true := by kernel_rfl
theorem bd_u8 {x : Int} (h : (Lit.int .u8 x).wf = true) : 0 ≤ x ∧ x ≤ 255 := bounds_u8 h
theorem bd_u64 {x : Int} (h : (Lit.int .u64 x).wf = true) : 0 ≤ x ∧ x ≤ 18446744073709551615 := by
 simp [Lit.wf, IntKind.min, IntKind.max, IntKind.signed, IntKind.bits] at h
 omega
end Go.Proofs.YtiebpncpdbnelaaDoor
namespace Go.Proofs.YtiebpncpdbnelaaDoor
open Go.ChangeShapes Go.WideShapes Go.ChangeAt Go.RowKit Go.Deep
def acells (l : List (ANd × Value)) : List Value := l.flatMap fun x => [.int .u64 (x.1.need : Int), .int .u64 (x.1.ban : Int), .int .u64 (x.1.inn : Int), x.2]
theorem acells_len (l : List (ANd × Value)) : (acells l).length = l.length * 4 := by
 induction l with
 | nil => rfl
 | cons x r ih => simp [acells] at ih ⊢; omega
theorem acells0 (l : List (ANd × Value)) (k : Nat) : (acells l)[k * 4]? = l[k]?.map fun x => .int .u64 (x.1.need : Int) := by
 induction l generalizing k with
 | nil => simp [acells]
 | cons x r ih => cases k with
  | zero => simp [acells]
  | succ k => have := ih k; simp [acells, Nat.succ_mul] at this ⊢; exact this
theorem acells1 (l : List (ANd × Value)) (k : Nat) : (acells l)[k * 4 + 1]? = l[k]?.map fun x => .int .u64 (x.1.ban : Int) := by
 induction l generalizing k with
 | nil => simp [acells]
 | cons x r ih => cases k with
  | zero => simp [acells]
  | succ k => have := ih k; simp [acells, Nat.succ_mul] at this ⊢; exact this
theorem acells2 (l : List (ANd × Value)) (k : Nat) : (acells l)[k * 4 + 2]? = l[k]?.map fun x => .int .u64 (x.1.inn : Int) := by
 induction l generalizing k with
 | nil => simp [acells]
 | cons x r ih => cases k with
  | zero => simp [acells]
  | succ k => have := ih k; simp [acells, Nat.succ_mul] at this ⊢; exact this
theorem acells3 (l : List (ANd × Value)) (k : Nat) : (acells l)[k * 4 + 3]? = l[k]?.map fun x => x.2 := by
 induction l generalizing k with
 | nil => simp [acells]
 | cons x r ih => cases k with
  | zero => simp [acells]
  | succ k => have := ih k; simp [acells, Nat.succ_mul] at this ⊢; exact this
def ANdOk (x : ANd) : Prop := x.need < 2 ^ 64 ∧ x.ban < 2 ^ 64 ∧ x.inn < 2 ^ 64 ∧ x.to.length ≤ 17592186044416 ∧ ∀ n ∈ x.to, (Lit.int .i64 n).wf = true
theorem nat_u64 {x : Int} (h : (Lit.int .u64 x).wf = true) : ∃ k : Nat, x = k ∧ k < 2 ^ 64 := by
 have := bd_u64 h
 exact ⟨x.toNat, by omega, by omega⟩
section
variable {H : Type} {enc : TypeId × Value → H} {P : Program} {w : World} {base : Nat} {spare : Nat → Bool} {held : Bool}
theorem open_anodes {t e te : TypeId} {f0 f1 f2 f3 : Field} {fuel : Nat} {cs : List Value} {x : DataW H × List MemPlace} (ht : P.underlying t = some (.slice e)) (he : P.underlying e = some (.struct #[f0, f1, f2, f3])) (hone : oneCellFields P #[f0, f1, f2, f3] = true) (hC : P.cellsOf e = 4)
  (h0 : P.underlying f0.type = some (.int .u64)) (h1 : P.underlying f1.type = some (.int .u64)) (h2 : P.underlying f2.type = some (.int .u64)) (h3 : P.underlying f3.type = some (.slice te)) (hte : P.cellsOf te = 1) (hti : P.underlying te = some (.int .i64)) (hb8 : P.bytesOf te = 8)
  (h : DataW.trod enc P w base spare held fuel t cs = some x) (hsm : Small P t x.1) :
  ∃ (A : Option Addr) (c : Nat) (l : List (ANd × Value)), cs = [.slice A l.length c] ∧ Sl w w.heap.size 4 A l.length c (acells l) ∧ (∀ y ∈ l, ∃ A' c', y.2 = .slice A' y.1.to.length c' ∧ Sl w w.heap.size 1 A' y.1.to.length c' (icells y.1.to)) ∧ (∀ y ∈ l, ANdOk y.1) ∧ l.length * P.bytesOf e ≤ reachBytes := by
 rcases open_slice ht h with ⟨hcs, _⟩ | ⟨a, len, cap, m, n, D, Pl, hcs, hb, hl, hm, hmm, hx, hi⟩
 ·exact ⟨none, 0, [], hcs, Sl.none_ _ _ _, by simp, by simp, by simp⟩
 ·have hlm : len ≤ m := by rw [hmm]; split <;> omega
  rw [hx] at hsm
  obtain ⟨hs1, hs2⟩ := small_slice ht hsm
  have key : ∀ i, i < len → ∃ y : ANd × Value, w.cell? (a.add (i * 4)) = some (.int .u64 (y.1.need : Int)) ∧ w.cell? (a.add (i * 4 + 1)) = some (.int .u64 (y.1.ban : Int)) ∧ w.cell? (a.add (i * 4 + 2)) = some (.int .u64 (y.1.inn : Int)) ∧ w.cell? (a.add (i * 4 + 3)) = some y.2 ∧
    (∃ A' c', y.2 = .slice A' y.1.to.length c' ∧ Sl w w.heap.size 1 A' y.1.to.length c' (icells y.1.to)) ∧ ANdOk y.1 := by
   intro i hlt
   obtain ⟨cs', hc, hd⟩ := hi i (by omega)
   rw [hC] at hc
   obtain ⟨_, hcl, hat⟩ := World.cells?_some hc
   obtain ⟨ys, n', _, hD, _, hyl, hf⟩ := DataW.trod_struct he hd
   have hyl4 : ys.length = 4 := hyl
   have hsi := hs2 (D i) (List.mem_map.2 ⟨i, List.mem_range.2 hlt, rfl⟩)
   have hDi : D i = .agg (ys.map (·.1)) := congrArg Prod.fst hD
   rw [hDi] at hsi
   obtain ⟨o0, k0⟩ := hone_of hone 0 f0 rfl
   obtain ⟨o1, k1⟩ := hone_of hone 1 f1 rfl
   obtain ⟨o2, k2⟩ := hone_of hone 2 f2 rfl
   obtain ⟨o3, k3⟩ := hone_of hone 3 f3 rfl
   match cs', hcl with
   | [u0, u1, u2, u3], _ =>
    have e0 := hf 0 f0 rfl
    have e1 := hf 1 f1 rfl
    have e2 := hf 2 f2 rfl
    have e3 := hf 3 f3 rfl
    rw [o0, k0] at e0
    rw [o1, k1] at e1
    rw [o2, k2] at e2
    rw [o3, k3] at e3
    have g0 := hat 0 (by omega)
    have g1 := hat 1 (by omega)
    have g2 := hat 2 (by omega)
    have g3 := hat 3 (by omega)
    rw [add_add] at g0 g1 g2 g3
    have hq : ∀ j, j < 4 → ∃ q, ys[j]? = some q := fun j hj => ⟨_, List.getElem?_eq_getElem (by omega)⟩
    obtain ⟨q0, hq0⟩ := hq 0 (by omega)
    obtain ⟨q1, hq1⟩ := hq 1 (by omega)
    obtain ⟨q2, hq2⟩ := hq 2 (by omega)
    obtain ⟨q3, hq3⟩ := hq 3 (by omega)
    rw [hq0] at e0
    rw [hq1] at e1
    rw [hq2] at e2
    rw [hq3] at e3
    obtain ⟨p0, hp0, _, w0⟩ := DataW.trod_int h0 e0
    obtain ⟨p1, hp1, _, w1⟩ := DataW.trod_int h1 e1
    obtain ⟨p2, hp2, _, w2⟩ := DataW.trod_int h2 e2
    have hsm3 : Small P f3.type q3.1 := small_agg he hsi (i := 3) rfl (by rw [List.getElem?_map, hq3]; rfl)
    obtain ⟨A', c', tl, e4, s4, b4, wf4⟩ := open_nums h3 hte hti e3 hsm3
    simp at hp0 hp1 hp2 e4
    subst hp0; subst hp1; subst hp2; subst e4
    obtain ⟨n0, rfl, l0⟩ := nat_u64 w0
    obtain ⟨n1, rfl, l1⟩ := nat_u64 w1
    obtain ⟨n2, rfl, l2⟩ := nat_u64 w2
    rw [hb8] at b4
    simp only [reachBytes] at b4
    exact ⟨(⟨n0, n1, n2, tl⟩, .slice A' tl.length c'), by simpa using g0, by simpa using g1, by simpa using g2, by simpa using g3, ⟨A', c', rfl, s4⟩, l0, l1, l2, by dsimp only; omega, wf4⟩
  have key2 : ∀ k, k ≤ len → ∃ l : List (ANd × Value), l.length = k ∧ (∀ i (hi : i < l.length), w.cell? (a.add (i * 4)) = some (.int .u64 (l[i].1.need : Int)) ∧ w.cell? (a.add (i * 4 + 1)) = some (.int .u64 (l[i].1.ban : Int)) ∧ w.cell? (a.add (i * 4 + 2)) = some (.int .u64 (l[i].1.inn : Int)) ∧ w.cell? (a.add (i * 4 + 3)) = some l[i].2) ∧
    (∀ y ∈ l, ∃ A' c', y.2 = .slice A' y.1.to.length c' ∧ Sl w w.heap.size 1 A' y.1.to.length c' (icells y.1.to)) ∧ ∀ y ∈ l, ANdOk y.1 := by
   intro k
   induction k with
   | zero => intro _; exact ⟨[], rfl, fun i hi => by simp at hi, by simp, by simp⟩
   | succ k ih =>
    intro hk
    obtain ⟨f, hf, hc, hok, hok2⟩ := ih (by omega)
    obtain ⟨y, h1, h2, h3, h4, h5, h6⟩ := key k (by omega)
    refine ⟨f ++ [y], by simp [hf], fun i hi => ?_, fun x hx => ?_, fun x hx => ?_⟩
    ·by_cases hik : i < f.length
     ·rw [List.getElem_append_left hik]; exact hc i hik
     ·have : i = f.length := by simp at hi; omega
      subst this
      rw [List.getElem_append_right (Nat.le_refl _)]
      simp only [Nat.sub_self, List.getElem_cons_zero]
      rw [hf]; exact ⟨h1, h2, h3, h4⟩
    ·simp only [List.mem_append, List.mem_singleton] at hx
     rcases hx with hx | rfl
     ·exact hok x hx
     ·exact h5
    ·simp only [List.mem_append, List.mem_singleton] at hx
     rcases hx with hx | rfl
     ·exact hok2 x hx
     ·exact h6
  obtain ⟨f, hf, hc, hok, hok2⟩ := key2 len (Nat.le_refl _)
  refine ⟨some a, cap, f, by rw [hcs, hf], ⟨acells_len f, by omega, hm, (fun h => by cases h), rd_of_cells fun j u hj => ?_⟩, hok, hok2, by rw [hf]; simpa using hs1⟩
  have hjl : j < (acells f).length := (List.getElem?_eq_some_iff.1 hj).1
  rw [acells_len] at hjl
  have hq : j / 4 < f.length := by omega
  obtain ⟨c0, c1, c2, c3⟩ := hc (j / 4) hq
  have hr : j % 4 = 0 ∨ j % 4 = 1 ∨ j % 4 = 2 ∨ j % 4 = 3 := by omega
  rcases hr with hr | hr | hr | hr
  ·have e : j = j / 4 * 4 := by omega
   rw [e] at hj ⊢
   rw [acells0, List.getElem?_eq_getElem hq] at hj
   cases hj; exact c0
  ·have e : j = j / 4 * 4 + 1 := by omega
   rw [e] at hj ⊢
   rw [acells1, List.getElem?_eq_getElem hq] at hj
   cases hj; exact c1
  ·have e : j = j / 4 * 4 + 2 := by omega
   rw [e] at hj ⊢
   rw [acells2, List.getElem?_eq_getElem hq] at hj
   cases hj; exact c2
  ·have e : j = j / 4 * 4 + 3 := by omega
   rw [e] at hj ⊢
   rw [acells3, List.getElem?_eq_getElem hq] at hj
   cases hj; exact c3
theorem open_auto {r : Reach} {b0 : Nat} {t ti ti0 tn en te : TypeId} {f0 f1 f2 g0 g1 g2 g3 : Field} {v : Value} {d : DataW H} {p : List MemPlace} (hs : P.underlying t = some (.struct #[f0, f1, f2])) (hone : oneCellFields P #[f0, f1, f2] = true) (hC : P.cellsOf t = 3)
  (e0 : P.underlying f0.type = some (.int .i64)) (e1 : f1.type = ti) (e2 : f2.type = tn) (hti : P.underlying ti = some (.slice ti0)) (hci : P.cellsOf ti0 = 1) (hi0 : P.underlying ti0 = some (.int .i64)) (hbi : P.bytesOf ti0 = 8)
  (htn : P.underlying tn = some (.slice en)) (hen : P.underlying en = some (.struct #[g0, g1, g2, g3])) (honen : oneCellFields P #[g0, g1, g2, g3] = true) (hCn : P.cellsOf en = 4) (h0 : P.underlying g0.type = some (.int .u64)) (h1 : P.underlying g1.type = some (.int .u64)) (h2 : P.underlying g2.type = some (.int .u64)) (h3 : P.underlying g3.type = some (.slice te))
  (hte : P.cellsOf te = 1) (htei : P.underlying te = some (.int .i64)) (hbt : P.bytesOf te = 8) (hbn : P.bytesOf en = 48)
  (hv : Value.okWide P w r b0 t v) (h : DataW.Trod enc P w base spare held t v d p) (hsm : Small P t d) :
  ∃ (a : Aut) (Ai : Option Addr) (ni ci : Nat) (An : Option Addr) (nn cn : Nat), v = .agg #[.int .i64 a.sets, .slice Ai ni ci, .slice An nn cn] ∧ AutRd w w.heap.size a Ai ni ci An nn cn ∧ (Lit.int .i64 a.sets).wf = true ∧ a.init.length ≤ 17592186044416 ∧ (∀ n ∈ a.init, (Lit.int .i64 n).wf = true) ∧ a.nodes.length ≤ 2932031007402 ∧ ∀ x ∈ a.nodes, ANdOk x := by
 subst e1; subst e2
 obtain ⟨v0, v1, v2, y0, y1, y2, n, rfl, rfl, _, k0, k1, k2⟩ := Joins.open_agg3 hs hone hC hv h
 obtain ⟨s, hs0, _, ws⟩ := DataW.trod_int e0 k0
 obtain ⟨Ai, ci, li, a1, a2, a3, wi⟩ := open_nums hti hci hi0 k1 (small_agg hs hsm (i := 1) rfl rfl)
 obtain ⟨An, cn, ln, b1, b2, b3, b4, b5⟩ := open_anodes htn hen honen hCn h0 h1 h2 h3 hte htei hbt k2 (small_agg hs hsm (i := 2) rfl rfl)
 simp at hs0 a1 b1
 subst hs0; subst a1; subst b1
 rw [hbi] at a3
 rw [hbn] at b5
 simp only [reachBytes] at a3 b5
 refine ⟨⟨s, li, ln.map (·.1)⟩, Ai, li.length, ci, An, ln.length, cn, rfl, ⟨rfl, by simp, a2, acells ln, b2, fun k x hk => ?_⟩, ws, by dsimp only; omega, wi, by simp only [List.length_map]; omega, fun x hx => ?_⟩
 ·simp only [List.getElem?_map] at hk
  obtain ⟨y, hy, rfl⟩ := Option.map_eq_some_iff.1 hk
  obtain ⟨A', c', e4, s4⟩ := b3 y (List.mem_of_getElem? hy)
  exact ⟨A', c', by rw [acells0, hy]; rfl, by rw [acells1, hy]; rfl, by rw [acells2, hy]; rfl, by rw [acells3, hy, ← e4]; rfl, s4⟩
 ·obtain ⟨y, hy, rfl⟩ := List.mem_map.1 hx
  exact b4 y hy
end
end Go.Proofs.YtiebpncpdbnelaaDoor
namespace Go.Proofs.YtiebpncpdbnelaaDoor
open Go.RowKit
set_option maxHeartbeats 8000000 in
set_option maxRecDepth 100000 in
theorem AutoChecks_any (a : Aut) (Ai : Option Addr) (ni ci : Nat) (An : Option Addr) (nn cn : Nat) (b : Aut) (Di : Option Addr) (mi di : Nat) (Dn : Option Addr) (mn dn : Nat) (w : World) (hrd : AutRd w w.heap.size a Ai ni ci An nn cn) (hrd2 : AutRd w w.heap.size b Di mi di Dn mn dn) (hT : TabAt 0 Lib.deBruijn64tab w) (hg : 0 < w.heap.size) :
  Calls Tryd.prog 7 #[.agg #[.int .i64 a.sets, .slice Ai ni ci, .slice An nn cn], .agg #[.int .i64 b.sets, .slice Di mi di, .slice Dn mn dn]] w (Tru w true) := by
 obtain ⟨hb0, x0, y0, z0⟩ := two_new w (.cells #[.int .i64 a.sets, .slice Ai ni ci, .slice An nn cn] 25) (.cells #[.int .i64 b.sets, .slice Di mi di, .slice Dn mn dn] 25)
 obtain ⟨W0, hW0⟩ : ∃ W0, (w.alloc (.cells #[.int .i64 a.sets, .slice Ai ni ci, .slice An nn cn] 25)).alloc (.cells #[.int .i64 b.sets, .slice Di mi di, .slice Dn mn dn] 25) = W0 := ⟨_, rfl⟩
 rw [hW0] at hb0 x0 y0 z0
 have hq : w.heap.size + 1 < W0.heap.size := by omega
 have hq0 : w.heap.size ≤ W0.heap.size := by omega
 have HRD := Lib.hid (hrd.below hb0 (Nat.le_refl _))
 have HRD2 := Lib.hid (hrd2.below hb0 (Nat.le_refl _))
 have HW0 := Lib.hid hW0
 have HB0 := Lib.hid hb0
 have HCL : Hid (∀ W', Below W0.heap.size W0 W' → W'.cell? ⟨w.heap.size, 0, none⟩ = some (.int .i64 a.sets) ∧ W'.cell? ⟨w.heap.size, 1, none⟩ = some (.slice Ai ni ci) ∧ W'.cell? ⟨w.heap.size, 2, none⟩ = some (.slice An nn cn) ∧ W'.cell? ⟨w.heap.size + 1, 0, none⟩ = some (.int .i64 b.sets) ∧ W'.cell? ⟨w.heap.size + 1, 1, none⟩ = some (.slice Di mi di) ∧ W'.cell? ⟨w.heap.size + 1, 2, none⟩ = some (.slice Dn mn dn)) := Lib.hid (fun W' hb => by
  have k0 := (hb.block w.heap.size (by omega)).trans x0
  have k1 := (hb.block (w.heap.size + 1) hq).trans y0
  refine ⟨?_, ?_, ?_, ?_, ?_, ?_⟩ <;> first | (rw [cell_of_row _ _ _ _ _ (0, 0) k0]; rfl) | (rw [cell_of_row _ _ _ _ _ (0, 0) k1]; rfl))
 have HAW : Hid (∀ W', Below W0.heap.size W0 W' → Calls Tryd.prog 25 #[] W' (Tru W' true)) := Lib.hid (fun W' hb => by
  have hbw := hb0.trans (hb.mono hq0)
  exact awake30_any W' (fun x hx => (hbw.cell (p := ⟨_, x, none⟩) hg).trans (hT x hx)) (Nat.lt_of_lt_of_le hg hbw.size))
 have HHV := Lib.hid (heavy30_any a Ai ni ci An nn cn none 0 0 none 0 0 W0 w.heap.size HRD.out hq0)
 have HHV2 : Hid (∀ W', Below W0.heap.size W0 W' → Calls Tryd.prog 24 #[.agg #[.int .i64 b.sets, .slice Di mi di, .slice Dn mn dn], .agg #[.slice none 0 0, .slice none 0 0]] W' (Tru W' (heavy30 b 0 0))) := Lib.hid (fun W' hb => heavy30_any b Di mi di Dn mn dn none 0 0 none 0 0 W' w.heap.size (HRD2.out.below hb hq0) (Nat.le_trans hq0 hb.size))
 clear hW0 hb0 x0 y0 z0 hrd hrd2 hT hg
 go_enter Tryd.func7, Tryd.ntmps7
 go_upto_region 1 with fail
 rw [HW0.out]
 obtain ⟨q0, q1, q2, p0, p1, p2⟩ := HCL.out W0 (Below.refl _ _)
 go_wp2_with fail
 refine HHV.out.mono ?_
 rintro e w1 ⟨rfl, hb1⟩
 have hz1 := hb1.size
 have HB1 := Lib.hid hb1
 clear q0 q1 q2 p0 p1 p2 hb1
 cases hh : heavy30 a 0 0
 rotate_left 1
 ·have HAW1 := Lib.hid (HAW.out w1 HB1.out)
  clear hh
  go_wp2_with fail
  refine HAW1.out.mono ?_
  rintro e w9 ⟨rfl, hb9⟩
  have HB9 := Lib.hid (HB0.out.trans ((HB1.out.trans (hb9.mono HB1.out.size)).mono hq0))
  clear hb9
  go_wp2_with fail
  go_ret
  exact ⟨rfl, HB9.out⟩
 ·obtain ⟨hc1, hc2, -, -, hc5⟩ := heavy30_bd hh
  have HC5 := Lib.hid hc5
  clear hh hc5
  obtain ⟨q0, q1, q2, p0, p1, p2⟩ := HCL.out w1 HB1.out
  go_wp2_with fail
  refine (HHV2.out _ HB1.out).mono ?_
  rintro e w2 ⟨rfl, hb2⟩
  have HB2 := Lib.hid (HB1.out.trans (hb2.mono hz1))
  clear q0 q1 q2 p0 p1 p2 hb2
  cases hh : heavy30 b 0 0
  rotate_left 1
  ·have HAW1 := Lib.hid (HAW.out w2 HB2.out)
   clear hh
   go_wp2_with fail
   refine HAW1.out.mono ?_
   rintro e w9 ⟨rfl, hb9⟩
   have HB9 := Lib.hid (HB0.out.trans ((HB2.out.trans (hb9.mono HB2.out.size)).mono hq0))
   clear hb9
   go_wp2_with fail
   go_ret
   exact ⟨rfl, HB9.out⟩
  ·clear hh
   obtain ⟨cv, hcv⟩ : ∃ c, chkA a = c := ⟨_, rfl⟩
   obtain ⟨bb, hbb⟩ : ∃ c, decide (a = b) = c := ⟨_, rfl⟩
   have HCP : Hid (∀ W', Below W0.heap.size W0 W' → Calls Tryd.prog 26 #[.agg #[.int .i64 a.sets, .slice Ai ni ci, .slice An nn cn]] W' (Num W' cv)) := Lib.hid (fun W' hb => by rw [← hcv]; exact autoCheck_any a Ai ni ci An nn cn W' w.heap.size (HRD.out.below hb hq0) (Nat.le_trans hq0 hb.size) (by omega) (fun x hx => by have := HC5.out x hx; omega))
   have HCR : Hid (∀ W', Below W0.heap.size W0 W' → Calls Tryd.prog 22 #[.agg #[.int .i64 a.sets, .slice Ai ni ci, .slice An nn cn]] W' (Num W' cv)) := Lib.hid (fun W' hb => by rw [← hcv]; exact chkR_any a Ai ni ci An nn cn W' w.heap.size (HRD.out.below hb hq0) (Nat.le_trans hq0 hb.size))
   have HSP : Hid (∀ W', Below W0.heap.size W0 W' → Calls Tryd.prog 27 #[.agg #[.int .i64 a.sets, .slice Ai ni ci, .slice An nn cn], .agg #[.int .i64 b.sets, .slice Di mi di, .slice Dn mn dn]] W' (Tru W' bb)) := Lib.hid (fun W' hb => by rw [← hbb]; exact autoSame_any a b Ai ni ci An nn cn Di mi di Dn mn dn W' w.heap.size (HRD.out.below hb hq0) (HRD2.out.below hb hq0) (Nat.le_trans hq0 hb.size) (by omega) (by omega) (fun x hx => by have := HC5.out x hx; omega))
   have HSR : Hid (∀ W', Below W0.heap.size W0 W' → Calls Tryd.prog 15 #[.agg #[.int .i64 a.sets, .slice Ai ni ci, .slice An nn cn], .agg #[.int .i64 b.sets, .slice Di mi di, .slice Dn mn dn]] W' (Tru W' bb)) := Lib.hid (fun W' hb => by rw [← hbb]; exact sameRB_any a b Ai ni ci An nn cn Di mi di Dn mn dn W' w.heap.size (HRD.out.below hb hq0) (HRD2.out.below hb hq0) (Nat.le_trans hq0 hb.size) (by omega) (by omega) (fun x hx => by have := HC5.out x hx; omega))
   have HSS : Hid (∀ W', Below W0.heap.size W0 W' → Calls Tryd.prog 27 #[.agg #[.int .i64 a.sets, .slice Ai ni ci, .slice An nn cn], .agg #[.int .i64 a.sets, .slice Ai ni ci, .slice An nn cn]] W' (Tru W' true)) := Lib.hid (fun W' hb => by
    have h := autoSame_any a a Ai ni ci An nn cn Ai ni ci An nn cn W' w.heap.size (HRD.out.below hb hq0) (HRD.out.below hb hq0) (Nat.le_trans hq0 hb.size) (by omega) (by omega) (fun x hx => by have := HC5.out x hx; omega)
    rwa [decide_eq_true rfl] at h)
   have e1 : (cv == cv) = true := by simp
   have e2 : (bb == bb) = true := by cases bb <;> rfl
   have e3 : decide (cv = cv) = true := decide_eq_true rfl
   clear hcv hbb
   obtain ⟨s0, s1, s2, s3, s4, s5⟩ := HCL.out w2 HB2.out
   go_upto_region 3 with fail
   refine wp_region_held_drew (S := fun w' => w'.cell? ⟨w.heap.size, 0, none⟩ = some (.int .i64 a.sets) ∧ w'.cell? ⟨w.heap.size, 1, none⟩ = some (.slice Ai ni ci) ∧ w'.cell? ⟨w.heap.size, 2, none⟩ = some (.slice An nn cn) ∧ w'.cell? ⟨w.heap.size + 1, 0, none⟩ = some (.int .i64 b.sets) ∧ w'.cell? ⟨w.heap.size + 1, 1, none⟩ = some (.slice Di mi di) ∧ w'.cell? ⟨w.heap.size + 1, 2, none⟩ = some (.slice Dn mn dn)) (by kernel_rfl) ⟨s0, s1, s2, s3, s4, s5⟩ (fun hS => ?_)
   refine tkH 0 rfl hS ?_
   refine tkH 2 rfl hS ?_
   refine wpAnyH_oneD (i := 1) rfl (by kernel_rfl) (fun K hK => ?_)
   go_simp
   refine (HCP.out _ (Below.drew HB2.out)).mono ?_
   rintro e w3 ⟨rfl, hb'⟩
   have hb3 : Below W0.heap.size W0 w3 := ((Below.drew HB2.out)).trans (hb'.mono ((Below.drew HB2.out)).size)
   clear hb'
   dsimp only
   refine hK.out _ _ (HCL.out _ hb3) (fun hS => ?_)
   clear hK
   try simp only [Act.put, List.setIfInBounds_toArray, List.set_cons_zero, List.set_cons_succ]
   refine wpAnyH_oneD (i := 3) rfl (by kernel_rfl) (fun K hK => ?_)
   go_simp
   refine (HCR.out _ hb3).mono ?_
   rintro e w4 ⟨rfl, hb'⟩
   have hb4 : Below W0.heap.size W0 w4 := (hb3).trans (hb'.mono (hb3).size)
   clear hb'
   dsimp only
   refine hK.out _ _ (HCL.out _ hb4) (fun hS => ?_)
   clear hK
   try simp only [Act.put, List.setIfInBounds_toArray, List.set_cons_zero, List.set_cons_succ]
   refine tkH 4 rfl hS ?_
   refine tkH 5 rfl hS ?_
   refine tkH 6 rfl hS ?_
   refine tkH 7 rfl hS ?_
   refine tkH 9 rfl hS ?_
   refine tkH 10 rfl hS ?_
   refine wpAnyH_oneD (i := 8) rfl (by kernel_rfl) (fun K hK => ?_)
   go_simp
   refine (HSP.out _ hb4).mono ?_
   rintro e w5 ⟨rfl, hb'⟩
   have hb5 : Below W0.heap.size W0 w5 := (hb4).trans (hb'.mono (hb4).size)
   clear hb'
   dsimp only
   refine hK.out _ _ (HCL.out _ hb5) (fun hS => ?_)
   clear hK
   try simp only [Act.put, List.setIfInBounds_toArray, List.set_cons_zero, List.set_cons_succ]
   refine wpAnyH_oneD (i := 11) rfl (by kernel_rfl) (fun K hK => ?_)
   go_simp
   refine (HSR.out _ hb5).mono ?_
   rintro e w6 ⟨rfl, hb'⟩
   have hb6 : Below W0.heap.size W0 w6 := (hb5).trans (hb'.mono (hb5).size)
   clear hb'
   dsimp only
   refine hK.out _ _ (HCL.out _ hb6) (fun hS => ?_)
   clear hK
   try simp only [Act.put, List.setIfInBounds_toArray, List.set_cons_zero, List.set_cons_succ]
   refine tkH 12 rfl hS ?_
   refine tkH 13 rfl hS ?_
   refine tkH 14 rfl hS ?_
   refine tkH 15 rfl hS ?_
   refine tkH 16 rfl hS ?_
   refine wpAnyH_oneD (i := 17) rfl (by kernel_rfl) (fun K hK => ?_)
   go_simp
   refine (HSS.out _ hb6).mono ?_
   rintro e w7 ⟨rfl, hb'⟩
   have hb7 : Below W0.heap.size W0 w7 := (hb6).trans (hb'.mono (hb6).size)
   clear hb'
   dsimp only
   refine hK.out _ _ (HCL.out _ hb7) (fun hS => ?_)
   clear hK
   try simp only [Act.put, List.setIfInBounds_toArray, List.set_cons_zero, List.set_cons_succ]
   refine tkH 18 rfl hS ?_
   refine tkH 19 rfl hS ?_
   refine wpAnyH_oneD (i := 20) rfl (by kernel_rfl) (fun K hK => ?_)
   go_simp
   refine (HAW.out _ hb7).mono ?_
   rintro e w8 ⟨rfl, hb'⟩
   have hb8 : Below W0.heap.size W0 w8 := (hb7).trans (hb'.mono (hb7).size)
   clear hb'
   dsimp only
   refine hK.out _ _ (HCL.out _ hb8) (fun hS => ?_)
   clear hK
   try simp only [Act.put, List.setIfInBounds_toArray, List.set_cons_zero, List.set_cons_succ]
   refine tkH 21 rfl hS ?_
   refine tkH 22 rfl hS ?_
   refine wpAnyH_done (by kernel_rfl) ?_ _
   clear hS
   have HBF := Lib.hid (HB0.out.trans (hb8.mono hq0))
   go_wp2_with fail
   go_ret
   exact ⟨rfl, HBF.out⟩
end Go.Proofs.YtiebpncpdbnelaaDoor
namespace Go.Proofs.YtiebpncpdbnelaaDoor
open Go.RowKit
def manyA (k m : Nat) : Aut := ⟨(k : Int), [], List.replicate m ANd.none⟩
def zeroN : Array Value := #[.int .u64 0, .int .u64 0, .int .u64 0, .slice none 0 0]
theorem infoAN : (Tryd.prog.info? 43).map (fun i => (i.zero, i.size, i.bytes)) = some (some (.agg #[.int .u64 0, .int .u64 0, .int .u64 0, .slice none 0 0]), 4, 48) := by kernel_rfl
theorem make_nodes (m : Nat) (hm : m ≤ 1000) (w : World) : (Instr.makeSlice 23 (.int .i64 (m : Int)) (.int .i64 (m : Int))).run Tryd.prog w = .ok (.slice (some ⟨w.heap.size, 0, none⟩) m m) (w.alloc (.cells (madeCells zeroN (m * 4)) 43)) := by
 obtain ⟨i, hi, hzz⟩ := Option.map_eq_some_iff.1 infoAN
 simp only [Prod.mk.injEq] at hzz
 obtain ⟨hz, hs, hb⟩ := hzz
 have h := run_make (P := Tryd.prog) w 23 43 i _ Tryd.underlying23 hi hz .i64 .i64 (m : Int) (m : Int) (by omega) (Int.le_refl _) (by rw [hb]; omega) (by omega)
 rw [Int.toNat_natCast, hs] at h
 exact h
theorem made4 {m k j : Nat} (hk : k < m) (hj : j < 4) : (madeCells zeroN (m * 4)).toList[k * 4 + j]? = some zeroN[j]! := by
 have h4 : zeroN.size = 4 := rfl
 rw [Array.getElem?_toList]
 unfold madeCells
 rw [Array.getElem?_map, Array.getElem?_range, if_pos (by omega)]
 simp only [Option.map_some, h4]
 rw [show (k * 4 + j) % 4 = j by omega]
theorem many_rd {W : World} {b B k m : Nat} (h : W.heap[b]? = some (.cells (madeCells zeroN (m * 4)) 43 (0, 0))) (hb : b < B) (hm : m ≤ 1000) : AutRd W B (manyA k m) none 0 0 (some ⟨b, 0, none⟩) m m := by
 refine ⟨rfl, by simp [manyA], Sl.none_ _ _ _, _, sl_blkA (n := m) (size := 4) h rfl (by rw [Array.length_toList, size_madeCells]) (by unfold maxLen; omega) hb, fun j x hj => ?_⟩
 have hjm : j < m := by
  have := (List.getElem?_eq_some_iff.1 hj).1
  simpa [manyA] using this
 have hx : x = ANd.none := List.eq_of_mem_replicate (List.mem_of_getElem? hj)
 subst hx
 refine ⟨none, 0, ?_, ?_, ?_, ?_, Sl.none_ _ _ _⟩
 ·have := made4 (j := 0) hjm (by omega); exact this
 ·exact made4 (j := 1) hjm (by omega)
 ·exact made4 (j := 2) hjm (by omega)
 ·exact made4 (j := 3) hjm (by omega)
theorem many_chk (k m : Nat) : chkA (manyA k m) = if 256 < m ∨ 16 < k then 11 else 0 := by
 unfold chkA manyA
 simp only [List.length_replicate]
 by_cases h : 256 < m ∨ 16 < k
 ·rw [if_pos (by rcases h with h | h; exact .inl h; exact .inr (by omega)), if_pos h]
 ·rw [if_neg (by intro e; exact h (by rcases e with e | e; exact .inl e; exact .inr (by omega))), if_neg h, if_neg (by omega)]
  rw [if_pos (by rfl)]
  refine chkNds_ok (fun x hx => ?_)
  rw [List.eq_of_mem_replicate hx]
  unfold chkNd
  simp [ANd.none]
set_option maxHeartbeats 4000000 in
set_option maxRecDepth 100000 in
theorem AutoMany_any (n s : Nat) (w : World) (hn : n < 256) (hs : s < 256) (hT : TabAt 0 Lib.deBruijn64tab w) (hg : 0 < w.heap.size) :
  Calls Tryd.prog 8 #[.int .u8 (n : Int), .int .u8 (s : Int)] w (Tru w true) := by
 obtain ⟨n8, hn8⟩ : ∃ k, n % 8 = k := ⟨_, rfl⟩
 obtain ⟨s8, hs8⟩ : ∃ k, s % 8 = k := ⟨_, rfl⟩
 have tn : (n : Int).tmod 8 = (n8 : Int) := by rw [Int.tmod_eq_emod_of_nonneg (by omega)]; omega
 have ts : (s : Int).tmod 8 = (s8 : Int) := by rw [Int.tmod_eq_emod_of_nonneg (by omega)]; omega
 have ln : n8 < 8 := by omega
 have ls : s8 < 8 := by omega
 obtain ⟨m, hm⟩ : ∃ m, 253 + n8 = m := ⟨_, rfl⟩
 obtain ⟨k, hk⟩ : ∃ k, 13 + s8 = k := ⟨_, rfl⟩
 have w1 : IntKind.i64.wrap (n8 : Int) = n8 := by rw [IntKind.wrap_i64]; omega
 have w2 : IntKind.i64.wrap (s8 : Int) = s8 := by rw [IntKind.wrap_i64]; omega
 have w3 : IntKind.i64.wrap (253 + (n8 : Int)) = (m : Int) := by rw [IntKind.wrap_i64]; omega
 have w4 : IntKind.i64.wrap (13 + (s8 : Int)) = (k : Int) := by rw [IntKind.wrap_i64]; omega
 have hmk := make_nodes m (by omega)
 have hm9 : m ≤ 1000 := by omega
 obtain ⟨hb0, x0, y0, z0⟩ := two_new w (.cells (madeCells zeroN (m * 4)) 43) (.cells #[.int .i64 (k : Int), .slice none 0 0, .slice (some ⟨w.heap.size, 0, none⟩) m m] 25)
 obtain ⟨W0, hW0⟩ : ∃ W0, (w.alloc (.cells (madeCells zeroN (m * 4)) 43)).alloc (.cells #[.int .i64 (k : Int), .slice none 0 0, .slice (some ⟨w.heap.size, 0, none⟩) m m] 25) = W0 := ⟨_, rfl⟩
 rw [hW0] at hb0 x0 y0 z0
 have hrd := many_rd (k := k) (B := w.heap.size + 1) x0 (by omega) hm9
 have hck := autoCheck_any (manyA k m) none 0 0 (some ⟨w.heap.size, 0, none⟩) m m W0 (w.heap.size + 1) hrd (by omega) (by simp [manyA]) (fun x hx => by
  have : x = ANd.none := List.eq_of_mem_replicate hx
  rw [this]; simp [ANd.none])
 rw [many_chk] at hck
 have HCK := Lib.hid hck
 have HAW : Hid (∀ W', Below w.heap.size w W' → Calls Tryd.prog 25 #[] W' (Tru W' true)) := Lib.hid (fun W' hb =>
  awake30_any W' (fun x hx => (hb.cell (p := ⟨_, x, none⟩) hg).trans (hT x hx)) (Nat.lt_of_lt_of_le hg hb.size))
 have q0 : W0.cell? ⟨w.heap.size + 1, 0, none⟩ = some (.int .i64 (k : Int)) := by rw [cell_of_row _ _ _ _ _ (0, 0) y0]; rfl
 have q1 : W0.cell? ⟨w.heap.size + 1, 1, none⟩ = some (.slice none 0 0) := by rw [cell_of_row _ _ _ _ _ (0, 0) y0]; rfl
 have q2 : W0.cell? ⟨w.heap.size + 1, 2, none⟩ = some (.slice (some ⟨w.heap.size, 0, none⟩) m m) := by rw [cell_of_row _ _ _ _ _ (0, 0) y0]; rfl
 have HW0 := Lib.hid hW0
 have HB0 := Lib.hid hb0
 have hq0 : w.heap.size ≤ W0.heap.size := by omega
 clear hn8 hs8 hm hk hW0 hb0 x0 y0 z0 hrd hck hT hg
 go_enter Tryd.func8, Tryd.ntmps8
 go_upto_region 3 with fail
 rw [HW0.out]
 clear hmk w1 w2 w3 w4 tn ts
 by_cases c1 : 16 < k
 ·have d1 : decide ((16 : Int) < (k : Int)) = true := by simp; omega
  have hc := HCK.out
  rw [if_pos (.inr c1)] at hc
  have HC2 := Lib.hid hc
  clear hc HCK c1
  go_wp2_with fail
  refine HC2.out.mono ?_
  rintro e w1 ⟨rfl, hb1⟩
  have hb1w := HB0.out.trans (hb1.mono hq0)
  have HA1 := Lib.hid (HAW.out w1 hb1w)
  clear hb1
  go_wp2_with fail
  refine HA1.out.mono ?_
  rintro e w2 ⟨rfl, hb2⟩
  go_wp2_with fail
  go_ret
  exact ⟨rfl, hb1w.trans (hb2.mono hb1w.size)⟩
 ·have d1 : decide ((16 : Int) < (k : Int)) = false := by simp; omega
  by_cases c2 : 256 < m
  ·have d2 : decide ((256 : Int) < (m : Int)) = true := by simp; omega
   have hc := HCK.out
   rw [if_pos (.inl c2)] at hc
   have HC2 := Lib.hid hc
   clear hc HCK c1 c2
   go_wp2_with fail
   refine HC2.out.mono ?_
   rintro e w1 ⟨rfl, hb1⟩
   have hb1w := HB0.out.trans (hb1.mono hq0)
   have HA1 := Lib.hid (HAW.out w1 hb1w)
   clear hb1
   go_wp2_with fail
   refine HA1.out.mono ?_
   rintro e w2 ⟨rfl, hb2⟩
   go_wp2_with fail
   go_ret
   exact ⟨rfl, hb1w.trans (hb2.mono hb1w.size)⟩
  ·have d2 : decide ((256 : Int) < (m : Int)) = false := by simp; omega
   have hc := HCK.out
   rw [if_neg (fun e => e.elim c2 c1)] at hc
   have HC2 := Lib.hid hc
   clear hc HCK c1 c2
   go_wp2_with fail
   refine HC2.out.mono ?_
   rintro e w1 ⟨rfl, hb1⟩
   have hb1w := HB0.out.trans (hb1.mono hq0)
   have HA1 := Lib.hid (HAW.out w1 hb1w)
   clear hb1
   go_wp2_with fail
   refine HA1.out.mono ?_
   rintro e w2 ⟨rfl, hb2⟩
   go_wp2_with fail
   go_ret
   exact ⟨rfl, hb1w.trans (hb2.mono hb1w.size)⟩
theorem AutoMany_int (x y : Int) (w : World) (hx : 0 ≤ x ∧ x < 256) (hy : 0 ≤ y ∧ y < 256) (hT : TabAt 0 Lib.deBruijn64tab w) (hg : 0 < w.heap.size) :
  Calls Tryd.prog 8 #[.int .u8 x, .int .u8 y] w (Tru w true) := by
 obtain ⟨n, rfl⟩ : ∃ n : Nat, x = n := ⟨x.toNat, by omega⟩
 obtain ⟨s, rfl⟩ : ∃ s : Nat, y = s := ⟨y.toNat, by omega⟩
 exact AutoMany_any n s w (by omega) (by omega) hT hg
end Go.Proofs.YtiebpncpdbnelaaDoor
namespace Go.Proofs.YtiebpncpdbnelaaDoor
open Go.ChangeShapes Go.WideShapes Go.ChangeAt Go.RowKit Go.Shelf
theorem door_met (os : Os) (args : Array Value) : laidMetH Tryd.prog [("math/bits.deBruijn64tab", Rows.laid_math_bits_deBruijn64tab)] ((World.doorLaid Tryd.prog 14 os).forCall (fun _ _ => 0) ⟨#[], args, []⟩).memory :=
 laidMetH_of_parts3 (fuel := 8) (laidMet_of_run' 8 (by kernel_rfl) (by kernel_rfl)) (by kernel_rfl) (by kernel_rfl)
theorem gTab : Tryd.prog.globalNamed "math/bits.deBruijn64tab" = some 0 := by kernel_rfl
theorem tTab : (Tryd.prog.globals[0]?).map (·.type) = some 137 := by kernel_rfl
def tabI : List Int := Lib.deBruijn64tab.map (fun (n : Nat) => (n : Int))
theorem tab_of_laid {W : World} (h : laidMetH Tryd.prog [("math/bits.deBruijn64tab", Rows.laid_math_bits_deBruijn64tab)] W) : TabAt 0 Lib.deBruijn64tab W ∧ 0 < W.heap.size := by
 rw [MakeChecks.laidMetH_plain _ _ _ (by kernel_rfl)] at h
 have e : ([("math/bits.deBruijn64tab", Rows.laid_math_bits_deBruijn64tab)] : List (String × DataW Unit)) = [("math/bits.deBruijn64tab", Lib.tabData .u8 tabI)] := by rfl
 rw [e] at h
 have hI := Lib.tabIs_of_head gTab tTab Tryd.underlying137 Tryd.underlying5 (by kernel_rfl) (by kernel_rfl) h
 have hT : TabAt 0 Lib.deBruijn64tab W := fun j hj => by
  have := hI.cell gTab j (by simpa [tabI] using hj)
  rw [this]
  simp [tabI, List.getD, hj]
 refine ⟨hT, ?_⟩
 obtain ⟨o, ho, _⟩ := cells_of_cell (hT 0 (by decide))
 exact (Array.getElem?_eq_some_iff.1 ho).1
theorem no_stand_in {P : Program} {ts : Array TypeId} {t : TypeId} (hm : t ∈ ts) (h : (ts.toList.all fun u => !P.wantsStandIn u) = true) : P.wantsStandIn t = false := by
 have := List.all_eq_true.1 h t (by simpa using hm)
 simpa using this
end Go.Proofs.YtiebpncpdbnelaaDoor
