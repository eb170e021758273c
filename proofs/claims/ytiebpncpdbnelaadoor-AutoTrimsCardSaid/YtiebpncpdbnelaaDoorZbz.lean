/- Texts that stand one behind the other, in one file. -/
import Derived.Test.YtiebpncpdbnelaaDoorRows
import Derived.ShutString
import Derived.OpenShut
import Derived.Test.YtiebpncpdbnelaaDoorZbx
import Derived.Test.YtiebpncpdbnelaaDoorAr3
import Derived.Test.YtiebpncpdbnelaaDoorTie
import Derived.Test.YtiebpncpdbnelaaDoorCards
import Derived.SevenTiedAt
import Derived.LaidMore
import Derived.Lib.LaidTab
import Derived.RangeFuncOwn
set_option maxHeartbeats 8000000
set_option maxRecDepth 100000
namespace Go.Proofs.YtiebpncpdbnelaaDoor
theorem own : ownKnob Tryd.prog.godebug = none := by kernel_rfl
theorem laidOut : laidOutB Tryd.prog = true := by kernel_rfl
theorem bd_i64 {x : Int} (h : (Lit.int .i64 x).wf = true) : -9223372036854775808 ≤ x ∧ x ≤ 9223372036854775807 := bounds_i64 h
theorem bd_u64 {x : Int} (h : (Lit.int .u64 x).wf = true) : 0 ≤ x ∧ x ≤ 18446744073709551615 := by
 simp [Lit.wf, IntKind.min, IntKind.max, IntKind.signed, IntKind.bits] at h
 omega
end Go.Proofs.YtiebpncpdbnelaaDoor
namespace Go.Proofs.YtiebpncpdbnelaaDoor
open Go.ChangeShapes Go.WideShapes Go.ChangeAt Go.RowKit Go.Deep
def acells (l : List (ANd × Value)) : List Value := l.flatMap fun x => [.int .u64 (x.1.need : Int), .int .u64 (x.1.ban : Int), .int .u64 (x.1.inn : Int), x.2]
theorem acells_len (l : List (ANd × Value)) : (acells l).length = l.length * 4 := by
 induction l with
 | nil => rfl
 | cons x r ih => simp [acells] at ih ⊢; omega
theorem acells0 (l : List (ANd × Value)) (k : Nat) : (acells l)[k * 4]? = l[k]?.map fun x => .int .u64 (x.1.need : Int) := by
 induction l generalizing k with
 | nil => simp [acells]
 | cons x r ih => cases k with
  | zero => simp [acells]
  | succ k => have := ih k; simp [acells, Nat.succ_mul] at this ⊢; exact this
theorem acells1 (l : List (ANd × Value)) (k : Nat) : (acells l)[k * 4 + 1]? = l[k]?.map fun x => .int .u64 (x.1.ban : Int) := by
 induction l generalizing k with
 | nil => simp [acells]
 | cons x r ih => cases k with
  | zero => simp [acells]
  | succ k => have := ih k; simp [acells, Nat.succ_mul] at this ⊢; exact this
theorem acells2 (l : List (ANd × Value)) (k : Nat) : (acells l)[k * 4 + 2]? = l[k]?.map fun x => .int .u64 (x.1.inn : Int) := by
 induction l generalizing k with
 | nil => simp [acells]
 | cons x r ih => cases k with
  | zero => simp [acells]
  | succ k => have := ih k; simp [acells, Nat.succ_mul] at this ⊢; exact this
theorem acells3 (l : List (ANd × Value)) (k : Nat) : (acells l)[k * 4 + 3]? = l[k]?.map fun x => x.2 := by
 induction l generalizing k with
 | nil => simp [acells]
 | cons x r ih => cases k with
  | zero => simp [acells]
  | succ k => have := ih k; simp [acells, Nat.succ_mul] at this ⊢; exact this
def ANdOk (x : ANd) : Prop := x.need < 2 ^ 64 ∧ x.ban < 2 ^ 64 ∧ x.inn < 2 ^ 64 ∧ x.to.length ≤ 17592186044416 ∧ ∀ n ∈ x.to, (Lit.int .i64 n).wf = true
theorem nat_u64 {x : Int} (h : (Lit.int .u64 x).wf = true) : ∃ k : Nat, x = k ∧ k < 2 ^ 64 := by
 have := bd_u64 h
 exact ⟨x.toNat, by omega, by omega⟩
section
variable {H : Type} {enc : TypeId × Value → H} {P : Program} {w : World} {base : Nat} {spare : Nat → Bool} {held : Bool}
theorem open_anodes {t e te : TypeId} {f0 f1 f2 f3 : Field} {fuel : Nat} {cs : List Value} {x : DataW H × List MemPlace} (ht : P.underlying t = some (.slice e)) (he : P.underlying e = some (.struct #[f0, f1, f2, f3])) (hone : oneCellFields P #[f0, f1, f2, f3] = true) (hC : P.cellsOf e = 4)
  (h0 : P.underlying f0.type = some (.int .u64)) (h1 : P.underlying f1.type = some (.int .u64)) (h2 : P.underlying f2.type = some (.int .u64)) (h3 : P.underlying f3.type = some (.slice te)) (hte : P.cellsOf te = 1) (hti : P.underlying te = some (.int .i64)) (hb8 : P.bytesOf te = 8)
  (h : DataW.trod enc P w base spare held fuel t cs = some x) (hsm : Small P t x.1) :
  ∃ (A : Option Addr) (c : Nat) (l : List (ANd × Value)), cs = [.slice A l.length c] ∧ Sl w w.1.size 4 A l.length c (acells l) ∧ (∀ y ∈ l, ∃ A' c', y.2 = .slice A' y.1.to.length c' ∧ Sl w w.1.size 1 A' y.1.to.length c' (icells y.1.to)) ∧ (∀ y ∈ l, ANdOk y.1) ∧ l.length * P.bytesOf e ≤ reachBytes := by
 rcases open_slice ht h with ⟨hcs, _⟩ | ⟨a, len, cap, m, n, D, Pl, hcs, hb, hl, hm, hmm, hx, hi⟩
 ·exact ⟨none, 0, [], hcs, Sl.none_ _ _ _, by simp, by simp, by simp⟩
 ·have hlm : len ≤ m := by rw [hmm]; split <;> omega
  rw [hx] at hsm
  obtain ⟨hs1, hs2⟩ := small_slice ht hsm
  have key : ∀ i, i < len → ∃ y : ANd × Value, w.cell? (a.add (i * 4)) = some (.int .u64 (y.1.need : Int)) ∧ w.cell? (a.add (i * 4 + 1)) = some (.int .u64 (y.1.ban : Int)) ∧ w.cell? (a.add (i * 4 + 2)) = some (.int .u64 (y.1.inn : Int)) ∧ w.cell? (a.add (i * 4 + 3)) = some y.2 ∧
    (∃ A' c', y.2 = .slice A' y.1.to.length c' ∧ Sl w w.1.size 1 A' y.1.to.length c' (icells y.1.to)) ∧ ANdOk y.1 := by
   intro i hlt
   obtain ⟨cs', hc, hd⟩ := hi i (by omega)
   rw [hC] at hc
   obtain ⟨_, hcl, hat⟩ := World.cells?_some hc
   obtain ⟨ys, n', _, hD, _, hyl, hf⟩ := DataW.trod_struct he hd
   have hyl4 : ys.length = 4 := hyl
   have hsi := hs2 (D i) (List.mem_map.2 ⟨i, List.mem_range.2 hlt, rfl⟩)
   have hDi : D i = .agg (ys.map (·.1)) := congrArg Prod.fst hD
   rw [hDi] at hsi
   obtain ⟨o0, k0⟩ := hone_of hone 0 f0 rfl
   obtain ⟨o1, k1⟩ := hone_of hone 1 f1 rfl
   obtain ⟨o2, k2⟩ := hone_of hone 2 f2 rfl
   obtain ⟨o3, k3⟩ := hone_of hone 3 f3 rfl
   match cs', hcl with
   | [u0, u1, u2, u3], _ =>
    have e0 := hf 0 f0 rfl
    have e1 := hf 1 f1 rfl
    have e2 := hf 2 f2 rfl
    have e3 := hf 3 f3 rfl
    rw [o0, k0] at e0
    rw [o1, k1] at e1
    rw [o2, k2] at e2
    rw [o3, k3] at e3
    have g0 := hat 0 (by omega)
    have g1 := hat 1 (by omega)
    have g2 := hat 2 (by omega)
    have g3 := hat 3 (by omega)
    rw [add_add] at g0 g1 g2 g3
    have hq : ∀ j, j < 4 → ∃ q, ys[j]? = some q := fun j hj => ⟨_, gE (by omega)⟩
    obtain ⟨q0, hq0⟩ := hq 0 (by omega)
    obtain ⟨q1, hq1⟩ := hq 1 (by omega)
    obtain ⟨q2, hq2⟩ := hq 2 (by omega)
    obtain ⟨q3, hq3⟩ := hq 3 (by omega)
    rw [hq0] at e0
    rw [hq1] at e1
    rw [hq2] at e2
    rw [hq3] at e3
    obtain ⟨p0, hp0, _, w0⟩ := DataW.trod_int h0 e0
    obtain ⟨p1, hp1, _, w1⟩ := DataW.trod_int h1 e1
    obtain ⟨p2, hp2, _, w2⟩ := DataW.trod_int h2 e2
    have hsm3 : Small P f3.type q3.1 := small_agg he hsi (i := 3) rfl (by rw [List.getElem?_map, hq3]; rfl)
    obtain ⟨A', c', tl, e4, s4, b4, wf4⟩ := open_nums h3 hte hti e3 hsm3
    simp at hp0 hp1 hp2 e4
    subst hp0; subst hp1; subst hp2; subst e4
    obtain ⟨n0, rfl, l0⟩ := nat_u64 w0
    obtain ⟨n1, rfl, l1⟩ := nat_u64 w1
    obtain ⟨n2, rfl, l2⟩ := nat_u64 w2
    rw [hb8] at b4
    simp only [reachBytes] at b4
    exact ⟨(⟨n0, n1, n2, tl⟩, .slice A' tl.length c'), by simpa using g0, by simpa using g1, by simpa using g2, by simpa using g3, ⟨A', c', rfl, s4⟩, l0, l1, l2, by dsimp only; omega, wf4⟩
  have key2 : ∀ k, k ≤ len → ∃ l : List (ANd × Value), l.length = k ∧ (∀ i (hi : i < l.length), w.cell? (a.add (i * 4)) = some (.int .u64 (l[i].1.need : Int)) ∧ w.cell? (a.add (i * 4 + 1)) = some (.int .u64 (l[i].1.ban : Int)) ∧ w.cell? (a.add (i * 4 + 2)) = some (.int .u64 (l[i].1.inn : Int)) ∧ w.cell? (a.add (i * 4 + 3)) = some l[i].2) ∧
    (∀ y ∈ l, ∃ A' c', y.2 = .slice A' y.1.to.length c' ∧ Sl w w.1.size 1 A' y.1.to.length c' (icells y.1.to)) ∧ ∀ y ∈ l, ANdOk y.1 := by
   intro k
   induction k with
   | zero => intro _; exact ⟨[], rfl, fun i hi => by simp at hi, by simp, by simp⟩
   | succ k ih =>
    intro hk
    obtain ⟨f, hf, hc, hok, hok2⟩ := ih (by omega)
    obtain ⟨y, h1, h2, h3, h4, h5, h6⟩ := key k (by omega)
    refine ⟨f ++ [y], by simp [hf], fun i hi => ?_, fun x hx => ?_, fun x hx => ?_⟩
    ·by_cases hik : i < f.length
     ·rw [List.getElem_append_left hik]; exact hc i hik
     ·have : i = f.length := by simp at hi; omega
      subst this
      rw [List.getElem_append_right lR]
      simp only [Nat.sub_self, List.getElem_cons_zero]
      rw [hf]; exact ⟨h1, h2, h3, h4⟩
    ·simp only [List.mem_append, mS] at hx
     rcases hx with hx | rfl
     ·exact hok x hx
     ·exact h5
    ·simp only [List.mem_append, mS] at hx
     rcases hx with hx | rfl
     ·exact hok2 x hx
     ·exact h6
  obtain ⟨f, hf, hc, hok, hok2⟩ := key2 len lR
  refine ⟨some a, cap, f, by rw [hcs, hf], ⟨acells_len f, by omega, hm, (fun h => by cases h), rd_of_cells fun j u hj => ?_⟩, hok, hok2, by rw [hf]; simpa using hs1⟩
  have hjl : j < (acells f).length := (gB.1 hj).1
  rw [acells_len] at hjl
  have hq : j / 4 < f.length := by omega
  obtain ⟨c0, c1, c2, c3⟩ := hc (j / 4) hq
  have hr : j % 4 = 0 ∨ j % 4 = 1 ∨ j % 4 = 2 ∨ j % 4 = 3 := by omega
  rcases hr with hr | hr | hr | hr
  ·have e : j = j / 4 * 4 := by omega
   rw [e] at hj ⊢
   rw [acells0, gE hq] at hj
   cases hj; exact c0
  ·have e : j = j / 4 * 4 + 1 := by omega
   rw [e] at hj ⊢
   rw [acells1, gE hq] at hj
   cases hj; exact c1
  ·have e : j = j / 4 * 4 + 2 := by omega
   rw [e] at hj ⊢
   rw [acells2, gE hq] at hj
   cases hj; exact c2
  ·have e : j = j / 4 * 4 + 3 := by omega
   rw [e] at hj ⊢
   rw [acells3, gE hq] at hj
   cases hj; exact c3
theorem open_auto {r : Reach} {b0 : Nat} {t ti ti0 tn en te : TypeId} {f0 f1 f2 g0 g1 g2 g3 : Field} {v : Value} {d : DataW H} {p : List MemPlace} (hs : P.underlying t = some (.struct #[f0, f1, f2])) (hone : oneCellFields P #[f0, f1, f2] = true) (hC : P.cellsOf t = 3)
  (e0 : P.underlying f0.type = some (.int .i64)) (e1 : f1.type = ti) (e2 : f2.type = tn) (hti : P.underlying ti = some (.slice ti0)) (hci : P.cellsOf ti0 = 1) (hi0 : P.underlying ti0 = some (.int .i64)) (hbi : P.bytesOf ti0 = 8)
  (htn : P.underlying tn = some (.slice en)) (hen : P.underlying en = some (.struct #[g0, g1, g2, g3])) (honen : oneCellFields P #[g0, g1, g2, g3] = true) (hCn : P.cellsOf en = 4) (h0 : P.underlying g0.type = some (.int .u64)) (h1 : P.underlying g1.type = some (.int .u64)) (h2 : P.underlying g2.type = some (.int .u64)) (h3 : P.underlying g3.type = some (.slice te))
  (hte : P.cellsOf te = 1) (htei : P.underlying te = some (.int .i64)) (hbt : P.bytesOf te = 8) (hbn : P.bytesOf en = 48)
  (hv : Value.okWide P w r b0 t v) (h : DataW.Trod enc P w base spare held t v d p) (hsm : Small P t d) :
  ∃ (a : Aut) (Ai : Option Addr) (ni ci : Nat) (An : Option Addr) (nn cn : Nat), v = .agg #[.int .i64 a.sets, .slice Ai ni ci, .slice An nn cn] ∧ AutRd w w.1.size a Ai ni ci An nn cn ∧ (Lit.int .i64 a.sets).wf = true ∧ a.init.length ≤ 17592186044416 ∧ (∀ n ∈ a.init, (Lit.int .i64 n).wf = true) ∧ a.nodes.length ≤ 2932031007402 ∧ ∀ x ∈ a.nodes, ANdOk x := by
 subst e1; subst e2
 obtain ⟨v0, v1, v2, y0, y1, y2, n, rfl, rfl, _, k0, k1, k2⟩ := Joins.open_agg3 hs hone hC hv h
 obtain ⟨s, hs0, _, ws⟩ := DataW.trod_int e0 k0
 obtain ⟨Ai, ci, li, a1, a2, a3, wi⟩ := open_nums hti hci hi0 k1 (small_agg hs hsm (i := 1) rfl rfl)
 obtain ⟨An, cn, ln, b1, b2, b3, b4, b5⟩ := open_anodes htn hen honen hCn h0 h1 h2 h3 hte htei hbt k2 (small_agg hs hsm (i := 2) rfl rfl)
 simp at hs0 a1 b1
 subst hs0; subst a1; subst b1
 rw [hbi] at a3
 rw [hbn] at b5
 simp only [reachBytes] at a3 b5
 refine ⟨⟨s, li, ln.map (·.1)⟩, Ai, li.length, ci, An, ln.length, cn, rfl, ⟨rfl, by simp, a2, acells ln, b2, fun k x hk => ?_⟩, ws, by dsimp only; omega, wi, by simp only [List.length_map]; omega, fun x hx => ?_⟩
 ·simp only [List.getElem?_map] at hk
  obtain ⟨y, hy, rfl⟩ := Option.map_eq_some_iff.1 hk
  obtain ⟨A', c', e4, s4⟩ := b3 y (List.mem_of_getElem? hy)
  exact ⟨A', c', by rw [acells0, hy]; rfl, by rw [acells1, hy]; rfl, by rw [acells2, hy]; rfl, by rw [acells3, hy, ← e4]; rfl, s4⟩
 ·obtain ⟨y, hy, rfl⟩ := List.mem_map.1 hx
  exact b4 y hy
end
end Go.Proofs.YtiebpncpdbnelaaDoor
namespace Go.Proofs.YtiebpncpdbnelaaDoor
theorem keptL_len (u : List Bool) (l : List Int) : (keptL u l).length ≤ l.length := by
 unfold keptL
 rw [List.length_map]
 exact List.length_filter_le _ _
theorem trimF_yes {a : Aut} (h : chkA a = 0) : trimF a = trimA a := by unfold trimF; rw [if_pos h]
theorem trimF_no {a : Aut} (h : ¬ chkA a = 0) : trimF a = Aut.zero := by unfold trimF; rw [if_neg h]
theorem trimF_len (a : Aut) : (trimF a).nodes.length ≤ a.nodes.length := by
 by_cases h : chkA a = 0
 ·rw [trimF_yes h]; exact trim_len a
 ·rw [trimF_no h]; exact Nat.zero_le _
theorem trimF_init (a : Aut) : (trimF a).init.length ≤ a.init.length := by
 by_cases h : chkA a = 0
 ·rw [trimF_yes h]; exact keptL_len _ _
 ·rw [trimF_no h]; exact Nat.zero_le _
theorem trimF_node {a : Aut} {x : ANd} (hx : x ∈ (trimF a).nodes) : ∃ y ∈ a.nodes, x.need = y.need ∧ x.ban = y.ban ∧ x.inn = y.inn ∧ x.to.length ≤ y.to.length := by
 by_cases h : chkA a = 0
 ·rw [trimF_yes h] at hx
  obtain ⟨i, hi, rfl⟩ := List.mem_map.1 hx
  exact ⟨a.at i, at_mem (List.mem_range.1 (List.mem_filter.1 hi).1), rfl, rfl, rfl, keptL_len _ _⟩
 ·rw [trimF_no h] at hx; cases hx
theorem trimA_chk {a : Aut} (h : chkA a = 0) : chkA (trimA a) = 0 := by
 obtain ⟨h1, h2, h3, h4⟩ := chk_iff.1 h
 exact (trim_chk h h4 ⟨h1, h2⟩ h3 _).1
theorem chk_okA {a : Aut} (h : chkA a = 0) : a.Ok := by
 obtain ⟨-, -, h3, -⟩ := chk_iff.1 h
 exact h3
theorem trimF_takes (a : Aut) (W : List Nat) (n2 lp : Nat) : (decide (chkA (trimF a) = 0) && decide (0 < n2) && accB (trimF a) W lp) = (decide (chkA a = 0) && decide (0 < n2) && accB a W lp) := by
 by_cases h : chkA a = 0
 ·have e : accB (trimA a) W lp = accB a W lp := by rw [Bool.eq_iff_iff, accB_iff, accB_iff, trim_acc (chk_okA h)]
  rw [trimF_yes h, trimA_chk h, h, e]
 ·have e : accB Aut.zero W lp = false := by
   rw [Bool.eq_false_iff]
   intro h'
   obtain ⟨r, h0, -⟩ := accB_iff.1 h'
   cases h0
  rw [trimF_no h, e, decide_eq_false h, Bool.and_false, Bool.false_and, Bool.false_and]
theorem trimF_idem (a : Aut) : trimF (trimF a) = trimF a := by
 by_cases h : chkA a = 0
 ·rw [trimF_yes h, trimF_yes (trimA_chk h), trim_trim (chk_okA h)]
 ·rw [trimF_no h, trimF_yes (show chkA Aut.zero = 0 by decide)]; rfl
end Go.Proofs.YtiebpncpdbnelaaDoor
namespace Go.Proofs.YtiebpncpdbnelaaDoor
open Go.RowKit
theorem AutoTrims_any (a : Aut) (Ai : Option Addr) (ni ci : Nat) (An : Option Addr) (nn cn : Nat) (A1 A2 : Option Addr) (n1 c1 n2 c2 : Nat) (st lo : List Int) (w : World) (hrd : AutRd w w.1.size a Ai ni ci An nn cn) (hw : WRd w w.1.size A1 A2 n1 c1 n2 c2 st lo) (hok : ∀ x ∈ a.nodes, ANdOk x) (hsW : (Lit.int .i64 a.sets).wf = true) (hiL : a.init.length ≤ 17592186044416) (_hnL : a.nodes.length ≤ 2932031007402)
  (h1 : ∀ n ∈ st, (Lit.int .u64 n).wf = true) (h2 : ∀ n ∈ lo, (Lit.int .u64 n).wf = true) (_hl1 : st.length ≤ 17592186044416) (_hl2 : lo.length ≤ 17592186044416) (hT : TabAt 0 Lib.deBruijn64tab w) (hg : 0 < w.1.size) :
  Calls Tryd.prog 10 #[.agg #[.int .i64 a.sets, .slice Ai ni ci, .slice An nn cn], .agg #[.slice A1 n1 c1, .slice A2 n2 c2]] w (Tru w true) := by
 obtain ⟨hb0, x0, y0, z0⟩ := two_new w (.cells #[.int .i64 a.sets, .slice Ai ni ci, .slice An nn cn] 25) (.cells #[.slice A1 n1 c1, .slice A2 n2 c2] 29)
 obtain ⟨W0, hW0⟩ := xQ ((w.alloc (.cells #[.int .i64 a.sets, .slice Ai ni ci, .slice An nn cn] 25)).alloc (.cells #[.slice A1 n1 c1, .slice A2 n2 c2] 29))
 rw [hW0] at hb0 x0 y0 z0
 have hq : w.1.size + 1 < W0.1.size := by omega
 have hq0 : w.1.size ≤ W0.1.size := by omega
 have HRD := dh (hrd.below hb0 lR)
 have HWD := dh (hw.below hb0 lR)
 have HW0 := dh hW0
 have HB0 := dh hb0
 have HOK := dh hok
 have HST := dh (fun n hn => by have := bd_u64 (h1 n hn); (exact (⟨by omega, by omega⟩ : 0 ≤ n ∧ n < 18446744073709551616)))
 have HLO := dh (fun n hn => by have := bd_u64 (h2 n hn); (exact (⟨by omega, by omega⟩ : 0 ≤ n ∧ n < 18446744073709551616)))
 have hnd : ∀ x ∈ a.nodes, x.need < 2 ^ 64 ∧ x.ban < 2 ^ 64 := fun x hx => ⟨(hok x hx).1, (hok x hx).2.1⟩
 have hinn : ∀ x ∈ a.nodes, x.inn < 2 ^ 64 := fun x hx => (hok x hx).2.2.1
 have HND := dh hnd
 have HINN := dh hinn
 have HNN := dh hrd.enn
 have HCL : Hid (∀ W', Below W0.1.size W0 W' → W'.cell? ⟨w.1.size, 0, none⟩ = some (.int .i64 a.sets) ∧ W'.cell? ⟨w.1.size, 1, none⟩ = some (.slice Ai ni ci) ∧ W'.cell? ⟨w.1.size, 2, none⟩ = some (.slice An nn cn) ∧ W'.cell? ⟨w.1.size + 1, 0, none⟩ = some (.slice A1 n1 c1) ∧ W'.cell? ⟨w.1.size + 1, 1, none⟩ = some (.slice A2 n2 c2)) := dh (fun W' hb => by
  have k0 := (hb.block w.1.size (by omega)).trans x0
  have k1 := (hb.block (w.1.size + 1) hq).trans y0
  refine ⟨?_, ?_, ?_, ?_, ?_⟩ <;> first | (rw [cell_of_row _ _ _ _ _ (0, 0) k0]; rfl) | (rw [cell_of_row _ _ _ _ _ (0, 0) k1]; rfl))
 have HAW : Hid (∀ W', Below W0.1.size W0 W' → Calls Tryd.prog 25 #[] W' (Tru W' true)) := dh (fun W' hb => by
  have hbw := hb0.trans (hb.mono hq0)
  exact awake30_any W' (fun x hx => bC hbw hg (hT x hx)) (Nat.lt_of_lt_of_le hg hbw.size))
 have HTB : Hid (∀ W', Below W0.1.size W0 W' → TabAt 0 Lib.deBruijn64tab W' ∧ 0 < W'.1.size) := dh (fun W' hb => by
  have hbw := hb0.trans (hb.mono hq0)
  exact ⟨fun x hx => bC hbw hg (hT x hx), Nat.lt_of_lt_of_le hg hbw.size⟩)
 have HHV := dh (heavy30_any a Ai ni ci An nn cn A1 n1 c1 A2 n2 c2 W0 w.1.size HRD.out hq0)
 have hl1' := hw.l1
 have hl2' := hw.l2
 have HL1 := dh hl1'
 have HL2 := dh hl2'
 clear hW0 hb0 x0 y0 z0 hrd hw hok hnd hinn h1 h2 hT hg hl1' hl2'
 go_enter Tryd.func10, Tryd.ntmps10
 go_upto_region 1 with fail
 rw [HW0.out]
 obtain ⟨q0, q1, q2, p0, p1⟩ := HCL.out W0 bR
 go_wp2_with fail
 refine HHV.out.mono ?_
 rintro e w1 ⟨rfl, hb1⟩
 have hz1 := hb1.size
 have HB1 := dh hb1
 clear q0 q1 q2 p0 p1 hb1
 cases hh : heavy30 a n1 n2
 rotate_left 1
 ·have HAW1 := dh (HAW.out w1 HB1.out)
  clear hh
  go_wp2_with fail
  refine HAW1.out.mono ?_
  rintro e w2 ⟨rfl, hb2⟩
  have HB2 := dh (HB0.out.trans ((HB1.out.trans (hb2.mono hz1)).mono hq0))
  clear hb2
  go_wp2_with fail
  go_ret
  exact ⟨rfl, HB2.out⟩
 ·obtain ⟨hc1, hc2, hc3, hc4, hc5⟩ := heavy30_bd hh
  have HC5 := dh hc5
  have hnn : nn ≤ 24 := by rw [HNN.out]; exact hc1
  clear hh hc5
  have hwl : (wordA st lo).length = n1 + n2 := by rw [wordA_len, ← HL1.out, ← HL2.out]
  obtain ⟨tv, htv⟩ := xQ (decide (chkA a = 0) && decide (0 < n2) && accB a (wordA st lo) n1)
  obtain ⟨T, hTe⟩ := xQ (trimF a)
  have htv2 : (decide (chkA T = 0) && decide (0 < n2) && accB T (wordA st lo) n1) = tv := by rw [← hTe, trimF_takes, htv]
  have hT1 : T.nodes.length ≤ a.nodes.length := by rw [← hTe]; exact trimF_len a
  have hT2 : T.init.length ≤ 60 := by rw [← hTe]; exact Nat.le_trans (trimF_init a) hc2
  have hT3 : ∀ x ∈ T.nodes, (x.need < 2 ^ 64 ∧ x.ban < 2 ^ 64) ∧ x.inn < 2 ^ 64 ∧ x.to.length ≤ 60 := by
   intro x hx
   rw [← hTe] at hx
   obtain ⟨y, hy, e1, e2, e3, e4⟩ := trimF_node hx
   exact ⟨by rw [e1, e2]; exact HND.out y hy, by rw [e3]; exact HINN.out y hy, Nat.le_trans e4 (HC5.out y hy)⟩
  have hT4 : trimF T = T := by rw [← hTe]; exact trimF_idem a
  have hT24 : T.nodes.length ≤ 24 := by omega
  have hTP : ∀ (b : Aut) (Di : Option Addr) (mi di : Nat) (Dn : Option Addr) (mn dn : Nat) (W' : World) (C : Nat), AutRd W' C b Di mi di Dn mn dn → C ≤ W'.1.size → b.nodes.length ≤ 24 → b.init.length ≤ 60 → (∀ x ∈ b.nodes, (x.need < 2 ^ 64 ∧ x.ban < 2 ^ 64) ∧ x.inn < 2 ^ 64 ∧ x.to.length ≤ 60) → WRd W' C A1 A2 n1 c1 n2 c2 st lo → Calls Tryd.prog 28 #[.agg #[.int .i64 b.sets, .slice Di mi di, .slice Dn mn dn], .agg #[.slice A1 n1 c1, .slice A2 n2 c2]] W' (Tru W' (decide (chkA b = 0) && decide (0 < n2) && accB b (wordA st lo) n1)) := by
   intro b Di mi di Dn mn dn W' C h1 hC h2 h3 h4 h5
   have hmn := h1.enn
   have hk0 : (n1 + n2) * mn ≤ 24 * 24 := Nat.mul_le_mul (by omega) (by omega)
   have hk1 : (n1 + n2) * mn * 60 ≤ 24 * 24 * 60 := Nat.mul_le_mul_right _ hk0
   exact takesP_any b Di mi di Dn mn dn A1 A2 n1 c1 n2 c2 st lo (wordA st lo) W' C h1 h5 hC (fun x hx => (h4 x hx).1) (fun x hx => (h4 x hx).2.1) 60 (fun x hx => (h4 x hx).2.2) (by omega) (by omega) hwl.symm (fun _ => wordA_atW HST.out HLO.out) (wordA_lt HST.out HLO.out) (by rw [hwl]; omega) (by rw [hwl]; omega) (by omega)
  have HTP := dh hTP
  have htr := trimP_any a Ai ni ci An nn cn w1 w.1.size (HRD.out.below HB1.out hq0) (Nat.le_trans hq0 HB1.out.size) (HTB.out w1 HB1.out).1 (HTB.out w1 HB1.out).2 HND.out HINN.out 60 HC5.out (by omega) (by omega)
  rw [hTe] at htr
  have HTR := dh htr
  have HTE := dh hTe
  have HTV := dh htv
  have HTV2 := dh htv2
  have HT3 := dh hT3
  have HT4 := dh hT4
  obtain ⟨q0, q1, q2, p0, p1⟩ := HCL.out w1 HB1.out
  clear htr hTe htv htv2 hT3 hT4 hTP hwl
  go_wp2_with fail
  refine HTR.out.mono ?_
  rintro e w2 ⟨Ti, ti, ei, Tn, tn, en, rfl, hrt, hb2⟩
  have etn := hrt.enn
  have HETN := dh etn
  obtain ⟨W3, hW3⟩ := xQ (w2.alloc (.cells #[.int .i64 T.sets, .slice Ti ti ei, .slice Tn tn en] 25))
  have hb3' : Below w2.1.size w2 W3 := by rw [← hW3]; exact bR.alloc lR _
  have k3 : W3.1[w2.1.size]? = some (.cells #[.int .i64 T.sets, .slice Ti ti ei, .slice Tn tn en] 25 (0, 0)) := by rw [← hW3]; exact heap_alloc_new w2 _
  have l3 : w2.1.size < W3.1.size := by rw [← hW3]; simp
  have hb2w := HB1.out.trans (hb2.mono hz1)
  have HB3 := dh (hb2w.trans (hb3'.mono hb2w.size))
  have HRT := dh (hrt.below hb3' lR)
  have HW3 := dh hW3
  have HCT : Hid (∀ W', Below W3.1.size W3 W' → W'.cell? ⟨w.1.size, 0, none⟩ = some (.int .i64 a.sets) ∧ W'.cell? ⟨w.1.size, 1, none⟩ = some (.slice Ai ni ci) ∧ W'.cell? ⟨w.1.size, 2, none⟩ = some (.slice An nn cn) ∧ W'.cell? ⟨w.1.size + 1, 0, none⟩ = some (.slice A1 n1 c1) ∧ W'.cell? ⟨w.1.size + 1, 1, none⟩ = some (.slice A2 n2 c2) ∧ W'.cell? ⟨w2.1.size, 0, none⟩ = some (.int .i64 T.sets) ∧ W'.cell? ⟨w2.1.size, 1, none⟩ = some (.slice Ti ti ei) ∧ W'.cell? ⟨w2.1.size, 2, none⟩ = some (.slice Tn tn en)) := dh (fun W' hb => by
   obtain ⟨e1, e2, e3, e4, e5⟩ := HCL.out W' (HB3.out.trans (hb.mono HB3.out.size))
   have k := (hb.block w2.1.size l3).trans k3
   refine ⟨e1, e2, e3, e4, e5, ?_, ?_, ?_⟩ <;> (rw [cell_of_row _ _ _ _ _ (0, 0) k]; rfl))
  have hle : decide ((tn : Int) ≤ (nn : Int)) = true := by have := HNN.out; simp; omega
  have hle2 : tn ≤ nn := by have := HNN.out; omega
  have hle3 : (tn : Int) ≤ (nn : Int) := by omega
  have htt : (tv == tv) = true := by cases tv <;> rfl
  have hw3 : w2.1.size ≤ W3.1.size := Nat.le_of_lt l3
  clear hrt hb2 hb3' k3 hb2w hW3 etn q0 q1 q2 p0 p1
  have HRF : Hid (∀ W', Below W3.1.size W3 W' → Calls Tryd.prog 30 #[.agg #[.int .i64 a.sets, .slice Ai ni ci, .slice An nn cn]] W' (AutOne W' T)) := dh (fun W' hb => by
   have hb0 := HB3.out.trans (hb.mono HB3.out.size)
   have hs := bd_i64 hsW
   have h := trimR_any a Ai ni ci An nn cn W' w.1.size (HRD.out.below hb0 hq0) (Nat.le_trans hq0 hb0.size) HND.out HINN.out (by omega) 60 HC5.out (by omega) (by omega) (by omega)
   rwa [HTE.out] at h)
  have HSM : Hid (∀ (Di : Option Addr) (mi di : Nat) (Dn : Option Addr) (mn dn : Nat) (W' : World), Below W3.1.size W3 W' → AutRd W' W'.1.size T Di mi di Dn mn dn → Calls Tryd.prog 15 #[.agg #[.int .i64 T.sets, .slice Ti ti ei, .slice Tn tn en], .agg #[.int .i64 T.sets, .slice Di mi di, .slice Dn mn dn]] W' (Tru W' true)) := dh (fun Di mi di Dn mn dn W' hb hd => by
   have h := sameRB_any T T Ti ti ei Tn tn en Di mi di Dn mn dn W' W'.1.size ((HRT.out.below hb hw3).up (Nat.le_trans hw3 hb.size)) hd lR (by omega) (by omega) (fun x hx => by have := (HT3.out x hx).2.2; omega)
   rwa [decide_eq_true rfl] at h)
  have HSM2 : Hid (∀ (Di : Option Addr) (mi di : Nat) (Dn : Option Addr) (mn dn : Nat) (W' : World), Below W3.1.size W3 W' → AutRd W' W'.1.size T Di mi di Dn mn dn → Calls Tryd.prog 15 #[.agg #[.int .i64 T.sets, .slice Di mi di, .slice Dn mn dn], .agg #[.int .i64 T.sets, .slice Ti ti ei, .slice Tn tn en]] W' (Tru W' true)) := dh (fun Di mi di Dn mn dn W' hb hd => by
   have h := sameRB_any T T Di mi di Dn mn dn Ti ti ei Tn tn en W' W'.1.size hd ((HRT.out.below hb hw3).up (Nat.le_trans hw3 hb.size)) lR (by omega) (by omega) (fun x hx => by have := (HT3.out x hx).2.2; omega)
   rwa [decide_eq_true rfl] at h)
  have HT1 : Hid (∀ W', Below W3.1.size W3 W' → Calls Tryd.prog 28 #[.agg #[.int .i64 T.sets, .slice Ti ti ei, .slice Tn tn en], .agg #[.slice A1 n1 c1, .slice A2 n2 c2]] W' (Tru W' tv)) := dh (fun W' hb => by
   have hb0 := HB3.out.trans (hb.mono HB3.out.size)
   have h := HTP.out T Ti ti ei Tn tn en W' W'.1.size ((HRT.out.below hb hw3).up (Nat.le_trans hw3 hb.size)) lR hT24 hT2 HT3.out ((HWD.out.below hb0 hq0).up (Nat.le_trans hq0 hb0.size))
   rwa [HTV2.out] at h)
  have HT2 : Hid (∀ W', Below W3.1.size W3 W' → Calls Tryd.prog 28 #[.agg #[.int .i64 a.sets, .slice Ai ni ci, .slice An nn cn], .agg #[.slice A1 n1 c1, .slice A2 n2 c2]] W' (Tru W' tv)) := dh (fun W' hb => by
   have hb0 := HB3.out.trans (hb.mono HB3.out.size)
   have h := HTP.out a Ai ni ci An nn cn W' w.1.size (HRD.out.below hb0 hq0) (Nat.le_trans hq0 hb0.size) hc1 hc2 (fun x hx => ⟨HND.out x hx, HINN.out x hx, HC5.out x hx⟩) (HWD.out.below hb0 hq0)
   rwa [HTV.out] at h)
  have HTT : Hid (∀ W', Below W3.1.size W3 W' → Calls Tryd.prog 29 #[.agg #[.int .i64 T.sets, .slice Ti ti ei, .slice Tn tn en]] W' (AutOne W' T)) := dh (fun W' hb => by
   have hb0 := HB3.out.trans (hb.mono HB3.out.size)
   have h := trimP_any T Ti ti ei Tn tn en W' W'.1.size ((HRT.out.below hb hw3).up (Nat.le_trans hw3 hb.size)) lR (HTB.out W' hb0).1 (HTB.out W' hb0).2 (fun x hx => (HT3.out x hx).1) (fun x hx => (HT3.out x hx).2.1) 60 (fun x hx => (HT3.out x hx).2.2) (by omega) (by omega)
   rwa [HT4.out] at h)
  have HAW3 : Hid (∀ W', Below W3.1.size W3 W' → Calls Tryd.prog 25 #[] W' (Tru W' true)) := dh (fun W' hb => HAW.out W' (HB3.out.trans (hb.mono HB3.out.size)))
  go_upto_region 4 with fail
  show Code.wp _ _ _ _ (w2.alloc (.cells #[.int .i64 T.sets, .slice Ti ti ei, .slice Tn tn en] 25))
  rw [HW3.out]
  obtain ⟨s0, s1, s2, s3, s4, s5, s6, s7⟩ := HCT.out W3 bR
  refine wp_region_held_drew (S := fun w' => w'.cell? ⟨w.1.size, 0, none⟩ = some (.int .i64 a.sets) ∧ w'.cell? ⟨w.1.size, 1, none⟩ = some (.slice Ai ni ci) ∧ w'.cell? ⟨w.1.size, 2, none⟩ = some (.slice An nn cn) ∧ w'.cell? ⟨w.1.size + 1, 0, none⟩ = some (.slice A1 n1 c1) ∧ w'.cell? ⟨w.1.size + 1, 1, none⟩ = some (.slice A2 n2 c2) ∧ w'.cell? ⟨w2.1.size, 0, none⟩ = some (.int .i64 T.sets) ∧ w'.cell? ⟨w2.1.size, 1, none⟩ = some (.slice Ti ti ei) ∧ w'.cell? ⟨w2.1.size, 2, none⟩ = some (.slice Tn tn en)) (by kernel_rfl) ⟨s0, s1, s2, s3, s4, s5, s6, s7⟩ (fun hS => ?_)
  refine tkH 0 ?_
  refine tkH 1 ?_
  refine oneH 2 (fun K hK => ?_)
  go_simp
  refine (HRF.out _ (Below.drew (Below.refl W3.1.size W3))).mono ?_
  rintro e w4 ⟨Ri, Rj, Rk, Rn, Rm, Ro, rfl, hr4, hb'⟩
  have hb4 : Below W3.1.size W3 w4 := ((Below.drew (Below.refl W3.1.size W3))).trans (hb'.mono ((Below.drew (Below.refl W3.1.size W3))).size)
  clear hb'
  dsimp only
  refine hK.out _ _ (HCT.out _ hb4) (fun hS => ?_)
  clear hK
  refine oneH 3 (fun K hK => ?_)
  go_simp
  refine (HSM.out _ _ _ _ _ _ _ hb4 hr4).mono ?_
  rintro e w5 ⟨rfl, hb'⟩
  have hb5 : Below W3.1.size W3 w5 := hb4.trans (hb'.mono hb4.size)
  clear hb'
  dsimp only
  refine hK.out _ _ (HCT.out _ hb5) (fun hS => ?_)
  clear hK
  refine tkH 4 ?_
  refine tkH 5 ?_
  refine tkH 6 ?_
  refine tkH 8 ?_
  refine tkH 9 ?_
  refine oneH 7 (fun K hK => ?_)
  go_simp
  refine (HT1.out _ hb5).mono ?_
  rintro e w6 ⟨rfl, hb'⟩
  have hb6 : Below W3.1.size W3 w6 := (hb5).trans (hb'.mono (hb5).size)
  clear hb'
  dsimp only
  refine hK.out _ _ (HCT.out _ hb6) (fun hS => ?_)
  clear hK
  refine oneH 10 (fun K hK => ?_)
  go_simp
  refine (HT2.out _ hb6).mono ?_
  rintro e w7 ⟨rfl, hb'⟩
  have hb7 : Below W3.1.size W3 w7 := (hb6).trans (hb'.mono (hb6).size)
  clear hb'
  dsimp only
  refine hK.out _ _ (HCT.out _ hb7) (fun hS => ?_)
  clear hK
  refine tkH 11 ?_
  refine tkH 12 ?_
  refine tkH 13 ?_
  refine tkH 14 ?_
  refine tkH 16 ?_
  refine oneH 15 (fun K hK => ?_)
  go_simp
  refine (HTT.out _ hb7).mono ?_
  rintro e w8 ⟨Qi, Qj, Qk, Qn, Qm, Qo, rfl, hr8, hb'⟩
  have hb8 : Below W3.1.size W3 w8 := (hb7).trans (hb'.mono (hb7).size)
  clear hb'
  dsimp only
  refine hK.out _ _ (HCT.out _ hb8) (fun hS => ?_)
  clear hK
  refine oneH 17 (fun K hK => ?_)
  go_simp
  refine (HSM2.out _ _ _ _ _ _ _ hb8 hr8).mono ?_
  rintro e w9 ⟨rfl, hb'⟩
  have hb9 : Below W3.1.size W3 w9 := hb8.trans (hb'.mono hb8.size)
  clear hb'
  dsimp only
  refine hK.out _ _ (HCT.out _ hb9) (fun hS => ?_)
  clear hK
  refine tkH 18 ?_
  refine tkH 19 ?_
  refine tkH 20 ?_
  refine tkH 21 ?_
  refine tkH 22 ?_
  refine tkH 23 ?_
  refine tkH 24 ?_
  refine tkH 25 ?_
  refine tkH 26 ?_
  refine tkH 27 ?_
  refine tkH 28 ?_
  refine oneH 29 (fun K hK => ?_)
  go_simp
  refine (HAW3.out _ hb9).mono ?_
  rintro e w10 ⟨rfl, hb'⟩
  have hb10 : Below W3.1.size W3 w10 := (hb9).trans (hb'.mono (hb9).size)
  clear hb'
  dsimp only
  refine hK.out _ _ (HCT.out _ hb10) (fun hS => ?_)
  clear hK
  refine tkH 30 ?_
  refine tkH 31 ?_
  refine wpAnyH_done (by kernel_rfl) ?_ _
  clear hS
  have HBF := dh (HB0.out.trans ((HB3.out.trans (hb10.mono HB3.out.size)).mono hq0))
  go_wp2_with fail
  go_ret
  exact ⟨rfl, HBF.out⟩
end Go.Proofs.YtiebpncpdbnelaaDoor
namespace Go.Proofs.YtiebpncpdbnelaaDoor
open Go.ChangeShapes Go.WideShapes Go.ChangeAt Go.RowKit Go.Shelf
theorem door_met (os : Os) (args : Array Value) : laidMetH Tryd.prog [("math/bits.deBruijn64tab", Rows.laid_math_bits_deBruijn64tab)] ((World.doorLaid Tryd.prog 14 os).forCall (fun _ _ => 0) ⟨#[], args, []⟩).memory :=
 laidMetH_of_parts3 (fuel := 8) (laidMet_of_run' 8 (by kernel_rfl) (by kernel_rfl)) (by kernel_rfl) (by kernel_rfl)
theorem gTab : Tryd.prog.globalNamed "math/bits.deBruijn64tab" = some 0 := by kernel_rfl
theorem tTab : (Tryd.prog.globals[0]?).map (·.type) = some 137 := by kernel_rfl
def tabI : List Int := Lib.deBruijn64tab.map (fun (n : Nat) => (n : Int))
theorem tab_of_laid {W : World} (h : laidMetH Tryd.prog [("math/bits.deBruijn64tab", Rows.laid_math_bits_deBruijn64tab)] W) : TabAt 0 Lib.deBruijn64tab W ∧ 0 < W.1.size := by
 rw [MakeChecks.laidMetH_plain _ _ _ (by kernel_rfl)] at h
 have e : ([("math/bits.deBruijn64tab", Rows.laid_math_bits_deBruijn64tab)] : List (String × DataW Unit)) = [("math/bits.deBruijn64tab", Lib.tabData .u8 tabI)] := by rfl
 rw [e] at h
 have hI := Lib.tabIs_of_head gTab tTab Tryd.underlying137 Tryd.underlying5 (by kernel_rfl) (by kernel_rfl) h
 have hT : TabAt 0 Lib.deBruijn64tab W := fun j hj => by
  have := hI.cell gTab j (by simpa [tabI] using hj)
  rw [this]
  simp [tabI, List.getD, hj]
 refine ⟨hT, ?_⟩
 obtain ⟨o, ho, _⟩ := cells_of_cell (hT 0 (by decide))
 exact (aI.1 ho).1
theorem no_stand_in {P : Program} {ts : Array TypeId} {t : TypeId} (hm : t ∈ ts) (h : (ts.toList.all fun u => !P.wantsStandIn u) = true) : P.wantsStandIn t = false := by
 have := List.all_eq_true.1 h t (by simpa using hm)
 simpa using this
end Go.Proofs.YtiebpncpdbnelaaDoor
