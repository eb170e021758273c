/- Texts that stand one behind the other, in one file. -/
import Derived.Test.YtiebpncpdbnelaaDoorZbv
import Derived.Test.YtiebpncpdbnelaaDoorRows
import Derived.ShutString
import Derived.OpenShut
set_option maxHeartbeats 8000000
set_option maxRecDepth 100000
namespace Go.Proofs.YtiebpncpdbnelaaDoor
open Go.RowKit
theorem takesN_any (a : Aut) (Ai : Option Addr) (ni ci : Nat) (An : Option Addr) (nn cn : Nat) (A1 A2 : Option Addr) (n1 c1 n2 c2 : Nat) (st lo : List Int) (w : World) (B : Nat) (h : AutRd w B a Ai ni ci An nn cn) (hw : WRd w B A1 A2 n1 c1 n2 c2 st lo) (hB : B ≤ w.1.size) (hl : n1 + n2 ≤ 60000) (hno : ¬ (chkA a = 0 ∧ 0 < n2)) :
  Calls Tryd.prog 20 #[.agg #[.int .i64 a.sets, .slice Ai ni ci, .slice An nn cn], .agg #[.slice A1 n1 c1, .slice A2 n2 c2]] w (Tru w false) := by
 obtain ⟨hb0, x0, y0, z0⟩ := two_new w (.cells #[.int .i64 a.sets, .slice Ai ni ci, .slice An nn cn] 25) (.cells #[.slice A1 n1 c1, .slice A2 n2 c2] 29)
 obtain ⟨W0, hW0⟩ := xQ ((w.alloc (.cells #[.int .i64 a.sets, .slice Ai ni ci, .slice An nn cn] 25)).alloc (.cells #[.slice A1 n1 c1, .slice A2 n2 c2] 29))
 rw [hW0] at hb0 x0 y0 z0
 have HCK := dh (chkR_any a Ai ni ci An nn cn W0 B (h.below hb0 hB) (by omega))
 have HWC := dh (fun w' => rCheck_any A1 A2 n1 c1 n2 c2 st lo w' hw.l1 hw.l2 hl)
 have HW0 := dh hW0
 have HB0 := dh hb0
 have HY0 := dh y0
 have hq : w.1.size + 1 < W0.1.size := by omega
 have hq0 : w.1.size ≤ W0.1.size := by omega
 have q0 : W0.cell? ⟨w.1.size, 0, none⟩ = some (.int .i64 a.sets) := cR x0
 have q1 : W0.cell? ⟨w.1.size, 1, none⟩ = some (.slice Ai ni ci) := cR x0
 have q2 : W0.cell? ⟨w.1.size, 2, none⟩ = some (.slice An nn cn) := cR x0
 clear hW0 hb0 x0 y0 z0 h hw hB hl
 go_enter Tryd.func20, Tryd.ntmps20
 go_upto_region 1 with fail
 rw [HW0.out]
 by_cases hck : chkA a = 0
 ·have hn2 : n2 = 0 := by
   by_cases e : n2 = 0
   ·exact e
   ·exact absurd ⟨hck, by omega⟩ hno
  have hwc := fun w' => HWC.out w'
  rw [if_pos hn2] at hwc
  have HWC2 := dh hwc
  have hc1 := HCK.out
  rw [hck] at hc1
  have HCK2 := dh hc1
  clear hwc hc1 hn2 hck hno HWC HCK
  go_wp2_with fail
  refine HCK2.out.mono ?_
  rintro e w1 ⟨rfl, hb1⟩
  have HB1 := dh (HB0.out.trans (hb1.mono hq0))
  have p0 : w1.cell? ⟨w.1.size + 1, 0, none⟩ = some (.slice A1 n1 c1) := cR ((hb1.block (w.1.size + 1) hq).trans HY0.out)
  have p1 : w1.cell? ⟨w.1.size + 1, 1, none⟩ = some (.slice A2 n2 c2) := cR ((hb1.block (w.1.size + 1) hq).trans HY0.out)
  have hz1 := hb1.size
  clear hb1 q0 q1 q2
  go_wp2_with fail
  refine (HWC2.out _).mono ?_
  rintro e w2 ⟨rfl, hb2⟩
  have HB2 := dh (HB1.out.trans (hb2.mono (show w.1.size ≤ w1.1.size by omega)))
  clear hb2 p0 p1
  go_wp2_with fail
  go_ret
  exact ⟨rfl, HB2.out⟩
 ·have hne : ((chkA a) == 0) = false := by rw [beq_eq_false_iff_ne]; exact hck
  have hne2 : ((chkA a) != 0) = true := by rw [bne_iff_ne]; exact hck
  have hne3 : decide (chkA a = 0) = false := decide_eq_false hck
  clear hck hno
  go_wp2_with fail
  refine HCK.out.mono ?_
  rintro e w1 ⟨rfl, hb1⟩
  have HB1 := dh (HB0.out.trans (hb1.mono hq0))
  clear hb1 q0 q1 q2
  go_wp2_with fail
  go_ret
  exact ⟨rfl, HB1.out⟩
theorem takesR_any (a : Aut) (Ai : Option Addr) (ni ci : Nat) (An : Option Addr) (nn cn : Nat) (A1 A2 : Option Addr) (n1 c1 n2 c2 : Nat) (st lo : List Int) (w : World) (B : Nat) (h : AutRd w B a Ai ni ci An nn cn) (hw : WRd w B A1 A2 n1 c1 n2 c2 st lo) (hB : B ≤ w.1.size) (hl : n1 + n2 ≤ 2000) (hNE : nn * (n1 + n2) ≤ 65536)
  (h1 : ∀ n ∈ st, 0 ≤ n ∧ n < 18446744073709551616) (h2 : ∀ n ∈ lo, 0 ≤ n ∧ n < 18446744073709551616) (hnd : ∀ x ∈ a.nodes, x.need < 2 ^ 64 ∧ x.ban < 2 ^ 64) (KB : Nat) (hr : ∀ x ∈ a.nodes, x.to.length ≤ KB) (hri : a.init.length ≤ KB) (hKB : nn * (n1 + n2) * KB ≤ 1000000000) (hKB2 : KB ≤ 1000000000) :
  Calls Tryd.prog 20 #[.agg #[.int .i64 a.sets, .slice Ai ni ci, .slice An nn cn], .agg #[.slice A1 n1 c1, .slice A2 n2 c2]] w (Tru w (decide (chkA a = 0) && decide (0 < n2) && accB a (wordA st lo) n1)) := by
 by_cases hck : chkA a = 0
 ·by_cases hn2 : 0 < n2
  ·have hWl : n1 + n2 = (wordA st lo).length := by rw [wordA_len, ← hw.l1, ← hw.l2]
   refine (takes30L_any a Ai ni ci An nn cn A1 A2 n1 c1 n2 c2 st lo (wordA st lo) w B h hw hB hck hn2 hl hNE hWl (wordA_atW h1 h2) (wordA_lt h1 h2) hnd KB hr hri hKB hKB2).mono ?_
   rintro e w' ⟨z, hz, ht⟩
   rw [takesB_acc (chkA_of hck).2.2.2 (by omega) hz] at ht
   rw [decide_eq_true hck, decide_eq_true hn2, Bool.and_self, Bool.true_and]
   exact ht
  ·rw [decide_eq_false hn2, Bool.and_false, Bool.false_and]
   exact takesN_any a Ai ni ci An nn cn A1 A2 n1 c1 n2 c2 st lo w B h hw hB (by omega) (fun h => hn2 h.2)
 ·rw [decide_eq_false hck, Bool.false_and, Bool.false_and]
  exact takesN_any a Ai ni ci An nn cn A1 A2 n1 c1 n2 c2 st lo w B h hw hB (by omega) (fun h => hck h.1)
end Go.Proofs.YtiebpncpdbnelaaDoor
namespace Go.Proofs.YtiebpncpdbnelaaDoor
theorem own : ownKnob Tryd.prog.godebug = none := by kernel_rfl
theorem laidOut : laidOutB Tryd.prog = true := by kernel_rfl
theorem bd_i64 {x : Int} (h : (Lit.int .i64 x).wf = true) : -9223372036854775808 ≤ x ∧ x ≤ 9223372036854775807 := bounds_i64 h
theorem bd_u8 {x : Int} (h : (Lit.int .u8 x).wf = true) : 0 ≤ x ∧ x ≤ 255 := bounds_u8 h
theorem bd_u64 {x : Int} (h : (Lit.int .u64 x).wf = true) : 0 ≤ x ∧ x ≤ 18446744073709551615 := by
 simp [Lit.wf, IntKind.min, IntKind.max, IntKind.signed, IntKind.bits] at h
 omega
end Go.Proofs.YtiebpncpdbnelaaDoor
namespace Go.Proofs.YtiebpncpdbnelaaDoor
open Go.ChangeShapes Go.WideShapes Go.ChangeAt Go.RowKit Go.Deep
def acells (l : List (ANd × Value)) : List Value := l.flatMap fun x => [.int .u64 (x.1.need : Int), .int .u64 (x.1.ban : Int), .int .u64 (x.1.inn : Int), x.2]
theorem acells_len (l : List (ANd × Value)) : (acells l).length = l.length * 4 := by
 induction l with
 | nil => rfl
 | cons x r ih => simp [acells] at ih ⊢; omega
theorem acells0 (l : List (ANd × Value)) (k : Nat) : (acells l)[k * 4]? = l[k]?.map fun x => .int .u64 (x.1.need : Int) := by
 induction l generalizing k with
 | nil => simp [acells]
 | cons x r ih => cases k with
  | zero => simp [acells]
  | succ k => have := ih k; simp [acells, Nat.succ_mul] at this ⊢; exact this
theorem acells1 (l : List (ANd × Value)) (k : Nat) : (acells l)[k * 4 + 1]? = l[k]?.map fun x => .int .u64 (x.1.ban : Int) := by
 induction l generalizing k with
 | nil => simp [acells]
 | cons x r ih => cases k with
  | zero => simp [acells]
  | succ k => have := ih k; simp [acells, Nat.succ_mul] at this ⊢; exact this
theorem acells2 (l : List (ANd × Value)) (k : Nat) : (acells l)[k * 4 + 2]? = l[k]?.map fun x => .int .u64 (x.1.inn : Int) := by
 induction l generalizing k with
 | nil => simp [acells]
 | cons x r ih => cases k with
  | zero => simp [acells]
  | succ k => have := ih k; simp [acells, Nat.succ_mul] at this ⊢; exact this
theorem acells3 (l : List (ANd × Value)) (k : Nat) : (acells l)[k * 4 + 3]? = l[k]?.map fun x => x.2 := by
 induction l generalizing k with
 | nil => simp [acells]
 | cons x r ih => cases k with
  | zero => simp [acells]
  | succ k => have := ih k; simp [acells, Nat.succ_mul] at this ⊢; exact this
def ANdOk (x : ANd) : Prop := x.need < 2 ^ 64 ∧ x.ban < 2 ^ 64 ∧ x.inn < 2 ^ 64 ∧ x.to.length ≤ 17592186044416 ∧ ∀ n ∈ x.to, (Lit.int .i64 n).wf = true
theorem nat_u64 {x : Int} (h : (Lit.int .u64 x).wf = true) : ∃ k : Nat, x = k ∧ k < 2 ^ 64 := by
 have := bd_u64 h
 exact ⟨x.toNat, by omega, by omega⟩
section
variable {H : Type} {enc : TypeId × Value → H} {P : Program} {w : World} {base : Nat} {spare : Nat → Bool} {held : Bool}
theorem open_anodes {t e te : TypeId} {f0 f1 f2 f3 : Field} {fuel : Nat} {cs : List Value} {x : DataW H × List MemPlace} (ht : P.underlying t = some (.slice e)) (he : P.underlying e = some (.struct #[f0, f1, f2, f3])) (hone : oneCellFields P #[f0, f1, f2, f3] = true) (hC : P.cellsOf e = 4)
  (h0 : P.underlying f0.type = some (.int .u64)) (h1 : P.underlying f1.type = some (.int .u64)) (h2 : P.underlying f2.type = some (.int .u64)) (h3 : P.underlying f3.type = some (.slice te)) (hte : P.cellsOf te = 1) (hti : P.underlying te = some (.int .i64)) (hb8 : P.bytesOf te = 8)
  (h : DataW.trod enc P w base spare held fuel t cs = some x) (hsm : Small P t x.1) :
  ∃ (A : Option Addr) (c : Nat) (l : List (ANd × Value)), cs = [.slice A l.length c] ∧ Sl w w.1.size 4 A l.length c (acells l) ∧ (∀ y ∈ l, ∃ A' c', y.2 = .slice A' y.1.to.length c' ∧ Sl w w.1.size 1 A' y.1.to.length c' (icells y.1.to)) ∧ (∀ y ∈ l, ANdOk y.1) ∧ l.length * P.bytesOf e ≤ reachBytes := by
 rcases open_slice ht h with ⟨hcs, _⟩ | ⟨a, len, cap, m, n, D, Pl, hcs, hb, hl, hm, hmm, hx, hi⟩
 ·exact ⟨none, 0, [], hcs, Sl.none_ _ _ _, by simp, by simp, by simp⟩
 ·have hlm : len ≤ m := by rw [hmm]; split <;> omega
  rw [hx] at hsm
  obtain ⟨hs1, hs2⟩ := small_slice ht hsm
  have key : ∀ i, i < len → ∃ y : ANd × Value, w.cell? (a.add (i * 4)) = some (.int .u64 (y.1.need : Int)) ∧ w.cell? (a.add (i * 4 + 1)) = some (.int .u64 (y.1.ban : Int)) ∧ w.cell? (a.add (i * 4 + 2)) = some (.int .u64 (y.1.inn : Int)) ∧ w.cell? (a.add (i * 4 + 3)) = some y.2 ∧
    (∃ A' c', y.2 = .slice A' y.1.to.length c' ∧ Sl w w.1.size 1 A' y.1.to.length c' (icells y.1.to)) ∧ ANdOk y.1 := by
   intro i hlt
   obtain ⟨cs', hc, hd⟩ := hi i (by omega)
   rw [hC] at hc
   obtain ⟨_, hcl, hat⟩ := World.cells?_some hc
   obtain ⟨ys, n', _, hD, _, hyl, hf⟩ := DataW.trod_struct he hd
   have hyl4 : ys.length = 4 := hyl
   have hsi := hs2 (D i) (List.mem_map.2 ⟨i, List.mem_range.2 hlt, rfl⟩)
   have hDi : D i = .agg (ys.map (·.1)) := congrArg Prod.fst hD
   rw [hDi] at hsi
   obtain ⟨o0, k0⟩ := hone_of hone 0 f0 rfl
   obtain ⟨o1, k1⟩ := hone_of hone 1 f1 rfl
   obtain ⟨o2, k2⟩ := hone_of hone 2 f2 rfl
   obtain ⟨o3, k3⟩ := hone_of hone 3 f3 rfl
   match cs', hcl with
   | [u0, u1, u2, u3], _ =>
    have e0 := hf 0 f0 rfl
    have e1 := hf 1 f1 rfl
    have e2 := hf 2 f2 rfl
    have e3 := hf 3 f3 rfl
    rw [o0, k0] at e0
    rw [o1, k1] at e1
    rw [o2, k2] at e2
    rw [o3, k3] at e3
    have g0 := hat 0 (by omega)
    have g1 := hat 1 (by omega)
    have g2 := hat 2 (by omega)
    have g3 := hat 3 (by omega)
    rw [add_add] at g0 g1 g2 g3
    have hq : ∀ j, j < 4 → ∃ q, ys[j]? = some q := fun j hj => ⟨_, gE (by omega)⟩
    obtain ⟨q0, hq0⟩ := hq 0 (by omega)
    obtain ⟨q1, hq1⟩ := hq 1 (by omega)
    obtain ⟨q2, hq2⟩ := hq 2 (by omega)
    obtain ⟨q3, hq3⟩ := hq 3 (by omega)
    rw [hq0] at e0
    rw [hq1] at e1
    rw [hq2] at e2
    rw [hq3] at e3
    obtain ⟨p0, hp0, _, w0⟩ := DataW.trod_int h0 e0
    obtain ⟨p1, hp1, _, w1⟩ := DataW.trod_int h1 e1
    obtain ⟨p2, hp2, _, w2⟩ := DataW.trod_int h2 e2
    have hsm3 : Small P f3.type q3.1 := small_agg he hsi (i := 3) rfl (by rw [List.getElem?_map, hq3]; rfl)
    obtain ⟨A', c', tl, e4, s4, b4, wf4⟩ := open_nums h3 hte hti e3 hsm3
    simp at hp0 hp1 hp2 e4
    subst hp0; subst hp1; subst hp2; subst e4
    obtain ⟨n0, rfl, l0⟩ := nat_u64 w0
    obtain ⟨n1, rfl, l1⟩ := nat_u64 w1
    obtain ⟨n2, rfl, l2⟩ := nat_u64 w2
    rw [hb8] at b4
    simp only [reachBytes] at b4
    exact ⟨(⟨n0, n1, n2, tl⟩, .slice A' tl.length c'), by simpa using g0, by simpa using g1, by simpa using g2, by simpa using g3, ⟨A', c', rfl, s4⟩, l0, l1, l2, by dsimp only; omega, wf4⟩
  have key2 : ∀ k, k ≤ len → ∃ l : List (ANd × Value), l.length = k ∧ (∀ i (hi : i < l.length), w.cell? (a.add (i * 4)) = some (.int .u64 (l[i].1.need : Int)) ∧ w.cell? (a.add (i * 4 + 1)) = some (.int .u64 (l[i].1.ban : Int)) ∧ w.cell? (a.add (i * 4 + 2)) = some (.int .u64 (l[i].1.inn : Int)) ∧ w.cell? (a.add (i * 4 + 3)) = some l[i].2) ∧
    (∀ y ∈ l, ∃ A' c', y.2 = .slice A' y.1.to.length c' ∧ Sl w w.1.size 1 A' y.1.to.length c' (icells y.1.to)) ∧ ∀ y ∈ l, ANdOk y.1 := by
   intro k
   induction k with
   | zero => intro _; exact ⟨[], rfl, fun i hi => by simp at hi, by simp, by simp⟩
   | succ k ih =>
    intro hk
    obtain ⟨f, hf, hc, hok, hok2⟩ := ih (by omega)
    obtain ⟨y, h1, h2, h3, h4, h5, h6⟩ := key k (by omega)
    refine ⟨f ++ [y], by simp [hf], fun i hi => ?_, fun x hx => ?_, fun x hx => ?_⟩
    ·by_cases hik : i < f.length
     ·rw [List.getElem_append_left hik]; exact hc i hik
     ·have : i = f.length := by simp at hi; omega
      subst this
      rw [List.getElem_append_right lR]
      simp only [Nat.sub_self, List.getElem_cons_zero]
      rw [hf]; exact ⟨h1, h2, h3, h4⟩
    ·simp only [List.mem_append, mS] at hx
     rcases hx with hx | rfl
     ·exact hok x hx
     ·exact h5
    ·simp only [List.mem_append, mS] at hx
     rcases hx with hx | rfl
     ·exact hok2 x hx
     ·exact h6
  obtain ⟨f, hf, hc, hok, hok2⟩ := key2 len lR
  refine ⟨some a, cap, f, by rw [hcs, hf], ⟨acells_len f, by omega, hm, (fun h => by cases h), rd_of_cells fun j u hj => ?_⟩, hok, hok2, by rw [hf]; simpa using hs1⟩
  have hjl : j < (acells f).length := (gB.1 hj).1
  rw [acells_len] at hjl
  have hq : j / 4 < f.length := by omega
  obtain ⟨c0, c1, c2, c3⟩ := hc (j / 4) hq
  have hr : j % 4 = 0 ∨ j % 4 = 1 ∨ j % 4 = 2 ∨ j % 4 = 3 := by omega
  rcases hr with hr | hr | hr | hr
  ·have e : j = j / 4 * 4 := by omega
   rw [e] at hj ⊢
   rw [acells0, gE hq] at hj
   cases hj; exact c0
  ·have e : j = j / 4 * 4 + 1 := by omega
   rw [e] at hj ⊢
   rw [acells1, gE hq] at hj
   cases hj; exact c1
  ·have e : j = j / 4 * 4 + 2 := by omega
   rw [e] at hj ⊢
   rw [acells2, gE hq] at hj
   cases hj; exact c2
  ·have e : j = j / 4 * 4 + 3 := by omega
   rw [e] at hj ⊢
   rw [acells3, gE hq] at hj
   cases hj; exact c3
theorem open_auto {r : Reach} {b0 : Nat} {t ti ti0 tn en te : TypeId} {f0 f1 f2 g0 g1 g2 g3 : Field} {v : Value} {d : DataW H} {p : List MemPlace} (hs : P.underlying t = some (.struct #[f0, f1, f2])) (hone : oneCellFields P #[f0, f1, f2] = true) (hC : P.cellsOf t = 3)
  (e0 : P.underlying f0.type = some (.int .i64)) (e1 : f1.type = ti) (e2 : f2.type = tn) (hti : P.underlying ti = some (.slice ti0)) (hci : P.cellsOf ti0 = 1) (hi0 : P.underlying ti0 = some (.int .i64)) (hbi : P.bytesOf ti0 = 8)
  (htn : P.underlying tn = some (.slice en)) (hen : P.underlying en = some (.struct #[g0, g1, g2, g3])) (honen : oneCellFields P #[g0, g1, g2, g3] = true) (hCn : P.cellsOf en = 4) (h0 : P.underlying g0.type = some (.int .u64)) (h1 : P.underlying g1.type = some (.int .u64)) (h2 : P.underlying g2.type = some (.int .u64)) (h3 : P.underlying g3.type = some (.slice te))
  (hte : P.cellsOf te = 1) (htei : P.underlying te = some (.int .i64)) (hbt : P.bytesOf te = 8) (hbn : P.bytesOf en = 48)
  (hv : Value.okWide P w r b0 t v) (h : DataW.Trod enc P w base spare held t v d p) (hsm : Small P t d) :
  ∃ (a : Aut) (Ai : Option Addr) (ni ci : Nat) (An : Option Addr) (nn cn : Nat), v = .agg #[.int .i64 a.sets, .slice Ai ni ci, .slice An nn cn] ∧ AutRd w w.1.size a Ai ni ci An nn cn ∧ (Lit.int .i64 a.sets).wf = true ∧ a.init.length ≤ 17592186044416 ∧ (∀ n ∈ a.init, (Lit.int .i64 n).wf = true) ∧ a.nodes.length ≤ 2932031007402 ∧ ∀ x ∈ a.nodes, ANdOk x := by
 subst e1; subst e2
 obtain ⟨v0, v1, v2, y0, y1, y2, n, rfl, rfl, _, k0, k1, k2⟩ := Joins.open_agg3 hs hone hC hv h
 obtain ⟨s, hs0, _, ws⟩ := DataW.trod_int e0 k0
 obtain ⟨Ai, ci, li, a1, a2, a3, wi⟩ := open_nums hti hci hi0 k1 (small_agg hs hsm (i := 1) rfl rfl)
 obtain ⟨An, cn, ln, b1, b2, b3, b4, b5⟩ := open_anodes htn hen honen hCn h0 h1 h2 h3 hte htei hbt k2 (small_agg hs hsm (i := 2) rfl rfl)
 simp at hs0 a1 b1
 subst hs0; subst a1; subst b1
 rw [hbi] at a3
 rw [hbn] at b5
 simp only [reachBytes] at a3 b5
 refine ⟨⟨s, li, ln.map (·.1)⟩, Ai, li.length, ci, An, ln.length, cn, rfl, ⟨rfl, by simp, a2, acells ln, b2, fun k x hk => ?_⟩, ws, by dsimp only; omega, wi, by simp only [List.length_map]; omega, fun x hx => ?_⟩
 ·simp only [List.getElem?_map] at hk
  obtain ⟨y, hy, rfl⟩ := Option.map_eq_some_iff.1 hk
  obtain ⟨A', c', e4, s4⟩ := b3 y (List.mem_of_getElem? hy)
  exact ⟨A', c', by rw [acells0, hy]; rfl, by rw [acells1, hy]; rfl, by rw [acells2, hy]; rfl, by rw [acells3, hy, ← e4]; rfl, s4⟩
 ·obtain ⟨y, hy, rfl⟩ := List.mem_map.1 hx
  exact b4 y hy
end
end Go.Proofs.YtiebpncpdbnelaaDoor
namespace Go.Proofs.YtiebpncpdbnelaaDoor
theorem trimF_yes {a : Aut} (h : chkA a = 0) : trimF a = trimA a := by unfold trimF; rw [if_pos h]
end Go.Proofs.YtiebpncpdbnelaaDoor
namespace Go.Proofs.YtiebpncpdbnelaaDoor
open Go.RowKit
theorem auto_field1 (s : Value) (i l : Option Addr) (j k m o : Nat) (w : World) : (Instr.field 25 (.agg #[s, .slice i j k, .slice l m o]) 1).run Tryd.prog w = .ok (.slice i j k) w := by
 simp [Instr.field, run_underlying Tryd.underlying25, go_sem, part, asAgg]
attribute [local go_sem] auto_field1
theorem natI_u64 {l : List Nat} (h : ∀ x ∈ l, x < 2 ^ 64) : ∀ n ∈ natI l, 0 ≤ n ∧ n < 18446744073709551616 := by
 intro n hn
 obtain ⟨x, hx, rfl⟩ := List.mem_map.1 hn
 have := h x hx
 omega
theorem AutoEmpty_any (a : Aut) (Ai : Option Addr) (ni ci : Nat) (An : Option Addr) (nn cn : Nat) (w : World) (hrd : AutRd w w.1.size a Ai ni ci An nn cn) (hok : ∀ x ∈ a.nodes, ANdOk x) (hsW : (Lit.int .i64 a.sets).wf = true) (hT : TabAt 0 Lib.deBruijn64tab w) (hg : 0 < w.1.size) :
  Calls Tryd.prog 11 #[.agg #[.int .i64 a.sets, .slice Ai ni ci, .slice An nn cn]] w (Tru w true) := by
 have hb0 : Below w.1.size w (w.alloc (.cells #[.int .i64 a.sets, .slice Ai ni ci, .slice An nn cn] 25)) := bR.alloc lR _
 have x0 := heap_alloc_new w (.cells #[.int .i64 a.sets, .slice Ai ni ci, .slice An nn cn] 25)
 have z0 : (w.alloc (.cells #[.int .i64 a.sets, .slice Ai ni ci, .slice An nn cn] 25)).1.size = w.1.size + 1 := by simp
 obtain ⟨W0, hW0⟩ := xQ (w.alloc (.cells #[.int .i64 a.sets, .slice Ai ni ci, .slice An nn cn] 25))
 rw [hW0] at hb0 x0 z0
 have hq0 : w.1.size ≤ W0.1.size := by omega
 have HRD := dh (hrd.below hb0 lR)
 have HW0 := dh hW0
 have HB0 := dh hb0
 have HND : Hid (∀ x ∈ a.nodes, x.need < 2 ^ 64 ∧ x.ban < 2 ^ 64) := dh (fun x hx => ⟨(hok x hx).1, (hok x hx).2.1⟩)
 have HINN : Hid (∀ x ∈ a.nodes, x.inn < 2 ^ 64) := dh (fun x hx => (hok x hx).2.2.1)
 have HNN := dh hrd.enn
 have HCL : Hid (∀ W', Below W0.1.size W0 W' → W'.cell? ⟨w.1.size, 0, none⟩ = some (.int .i64 a.sets) ∧ W'.cell? ⟨w.1.size, 1, none⟩ = some (.slice Ai ni ci) ∧ W'.cell? ⟨w.1.size, 2, none⟩ = some (.slice An nn cn)) := dh (fun W' hb => by
  have k0 := (hb.block w.1.size (by omega)).trans x0
  refine ⟨?_, ?_, ?_⟩ <;> (rw [cell_of_row _ _ _ _ _ (0, 0) k0]; rfl))
 have HTB : Hid (∀ W', Below W0.1.size W0 W' → TabAt 0 Lib.deBruijn64tab W' ∧ 0 < W'.1.size) := dh (fun W' hb => by
  have hbw := hb0.trans (hb.mono hq0)
  exact ⟨fun x hx => bC hbw hg (hT x hx), Nat.lt_of_lt_of_le hg hbw.size⟩)
 have HAW : Hid (∀ W', Below W0.1.size W0 W' → Calls Tryd.prog 25 #[] W' (Tru W' true)) := dh (fun W' hb => awake30_any W' (HTB.out W' hb).1 (HTB.out W' hb).2)
 have HHV := dh (heavy30_any a Ai ni ci An nn cn none 0 0 none 0 0 W0 w.1.size HRD.out hq0)
 clear hW0 hb0 x0 z0 hrd hok hT hg
 go_enter Tryd.func11, Tryd.ntmps11
 go_upto_region 1 with fail
 rw [HW0.out]
 obtain ⟨q0, q1, q2⟩ := HCL.out W0 bR
 go_wp2_with fail
 refine HHV.out.mono ?_
 rintro e w1 ⟨rfl, hb1⟩
 have hz1 := hb1.size
 have HB1 := dh hb1
 clear q0 q1 q2 hb1
 cases hh : heavy30 a 0 0
 rotate_left 1
 ·have HAW1 := dh (HAW.out w1 HB1.out)
  clear hh
  go_wp2_with fail
  refine HAW1.out.mono ?_
  rintro e w9 ⟨rfl, hb9⟩
  have HB9 := dh (HB0.out.trans ((HB1.out.trans (hb9.mono HB1.out.size)).mono hq0))
  clear hb9
  go_wp2_with fail
  go_ret
  exact ⟨rfl, HB9.out⟩
 ·obtain ⟨hc1, hc2, -, -, hc5⟩ := heavy30_bd hh
  have HC5 := dh hc5
  have hnn : nn ≤ 24 := by rw [HNN.out]; exact hc1
  clear hh hc5
  have HWI := dh ((callsIn_wide (n := 8)).1 (witness_in 8 (by omega) a Ai ni ci An nn cn w1 w.1.size (HRD.out.below HB1.out hq0) (Nat.le_trans hq0 HB1.out.size) (HTB.out w1 HB1.out).1 (HTB.out w1 HB1.out).2 HND.out HINN.out 60 HC5.out (by omega) (by omega)))
  obtain ⟨q0, q1, q2⟩ := HCL.out w1 HB1.out
  go_wp2_with fail
  refine HWI.out.mono ?_
  rintro e w2 ⟨A1, n1, c1, A2, n2, c2, st, lo, ok, rfl, hwr, hb2, hk1, hk0⟩
  obtain ⟨W3, hW3⟩ := xQ (w2.alloc (.cells #[.slice A1 n1 c1, .slice A2 n2 c2] 29))
  have hb3' : Below w2.1.size w2 W3 := by rw [← hW3]; exact bR.alloc lR _
  have k3 : W3.1[w2.1.size]? = some (.cells #[.slice A1 n1 c1, .slice A2 n2 c2] 29 (0, 0)) := by rw [← hW3]; exact heap_alloc_new w2 _
  have l3 : w2.1.size < W3.1.size := by rw [← hW3]; simp
  have hb2w := HB1.out.trans (hb2.mono hz1)
  have HB3 := dh (hb2w.trans (hb3'.mono hb2w.size))
  have HW3 := dh hW3
  have HL1 := dh hwr.l1
  have HL2 := dh hwr.l2
  have HWR := dh (hwr.below hb3' lR)
  have HCT : Hid (∀ W', Below W3.1.size W3 W' → W'.cell? ⟨w.1.size, 0, none⟩ = some (.int .i64 a.sets) ∧ W'.cell? ⟨w.1.size, 1, none⟩ = some (.slice Ai ni ci) ∧ W'.cell? ⟨w.1.size, 2, none⟩ = some (.slice An nn cn)) := dh (fun W' hb => HCL.out W' (HB3.out.trans (hb.mono HB3.out.size)))
  have HCK : Hid (∀ W', Below W3.1.size W3 W' → W'.cell? ⟨w2.1.size, 0, none⟩ = some (.slice A1 n1 c1) ∧ W'.cell? ⟨w2.1.size, 1, none⟩ = some (.slice A2 n2 c2)) := dh (fun W' hb => by
   have k := (hb.block w2.1.size l3).trans k3
   refine ⟨?_, ?_⟩ <;> (rw [cell_of_row _ _ _ _ _ (0, 0) k]; rfl))
  have hev : decide ((trimF a).init = []) = !ok := by
   cases ok
   ·rw [(hk0 rfl).1]; rfl
   ·obtain ⟨h1, h2, -⟩ := hk1 rfl
    rw [trimF_yes h1]; exact decide_eq_false h2
  have hb1 : (!ok != !ok) = false := by cases ok <;> rfl
  have hb2' : (ok == !ok) = false := by cases ok <;> rfl
  have HK1 := dh hk1
  have HK0 := dh hk0
  have hw3 : w2.1.size ≤ W3.1.size := Nat.le_of_lt l3
  have HEP : Hid (∀ W', Below W3.1.size W3 W' → Calls Tryd.prog 32 #[.agg #[.int .i64 a.sets, .slice Ai ni ci, .slice An nn cn]] W' (Tru W' (!ok))) := dh (fun W' hb => by
   have hb0 := HB3.out.trans (hb.mono HB3.out.size)
   rw [← hev]
   exact emptyP_any a Ai ni ci An nn cn W' w.1.size (HRD.out.below hb0 hq0) (Nat.le_trans hq0 hb0.size) HND.out HINN.out 60 HC5.out (by omega) (by omega))
  have HER : Hid (∀ W', Below W3.1.size W3 W' → Calls Tryd.prog 33 #[.agg #[.int .i64 a.sets, .slice Ai ni ci, .slice An nn cn]] W' (Tru W' (!ok))) := dh (fun W' hb => by
   have hb0 := HB3.out.trans (hb.mono HB3.out.size)
   have hs := bd_i64 hsW
   rw [← hev]
   exact emptyR_any a Ai ni ci An nn cn W' w.1.size (HRD.out.below hb0 hq0) (Nat.le_trans hq0 hb0.size) HND.out HINN.out (by omega) 60 HC5.out (by omega) (by omega) (by omega))
  have HTT : Hid (∀ W', Below W3.1.size W3 W' → Calls Tryd.prog 29 #[.agg #[.int .i64 a.sets, .slice Ai ni ci, .slice An nn cn]] W' (AutOne W' (trimF a))) := dh (fun W' hb => by
   have hb0 := HB3.out.trans (hb.mono HB3.out.size)
   exact trimP_any a Ai ni ci An nn cn W' w.1.size (HRD.out.below hb0 hq0) (Nat.le_trans hq0 hb0.size) (HTB.out W' hb0).1 (HTB.out W' hb0).2 HND.out HINN.out 60 HC5.out (by omega) (by omega))
  have HAW3 : Hid (∀ W', Below W3.1.size W3 W' → Calls Tryd.prog 25 #[] W' (Tru W' true)) := dh (fun W' hb => HAW.out W' (HB3.out.trans (hb.mono HB3.out.size)))
  have HQ : Hid (∀ j : Nat, j = (trimF a).init.length → ((j : Int) == 0) = !ok) := dh (fun j hj => by
   rw [← hev, Bool.eq_iff_iff, beq_iff_eq, decide_eq_true_eq, ← List.length_eq_zero_iff]; omega)
  have HQ2 : Hid (∀ j : Nat, j = (trimF a).init.length → decide ((j : Int) = 0) = !ok) := dh (fun j hj => by
   rw [← hev, Bool.eq_iff_iff, decide_eq_true_eq, decide_eq_true_eq, ← List.length_eq_zero_iff]; omega)
  clear hwr hb2 hk1 hk0 hb3' k3 hb2w hW3 hev q0 q1 q2
  go_upto_region 4 with fail
  show Code.wp _ _ _ _ (w2.alloc (.cells #[.slice A1 n1 c1, .slice A2 n2 c2] 29))
  rw [HW3.out]
  obtain ⟨s0, s1, s2⟩ := HCT.out W3 bR
  refine wp_region_held_drew (S := fun w' => w'.cell? ⟨w.1.size, 0, none⟩ = some (.int .i64 a.sets) ∧ w'.cell? ⟨w.1.size, 1, none⟩ = some (.slice Ai ni ci) ∧ w'.cell? ⟨w.1.size, 2, none⟩ = some (.slice An nn cn)) (by kernel_rfl) ⟨s0, s1, s2⟩ (fun hS => ?_)
  refine tkH 0 ?_
  refine tkH 2 ?_
  refine oneH 1 (fun K hK => ?_)
  go_simp
  refine (HEP.out _ (Below.drew (Below.refl W3.1.size W3))).mono ?_
  rintro e w4 ⟨rfl, hb'⟩
  have hb4 : Below W3.1.size W3 w4 := ((Below.drew (Below.refl W3.1.size W3))).trans (hb'.mono ((Below.drew (Below.refl W3.1.size W3))).size)
  clear hb'
  dsimp only
  refine hK.out _ _ (HCT.out _ hb4) (fun hS => ?_)
  clear hK
  refine oneH 3 (fun K hK => ?_)
  go_simp
  refine (HER.out _ hb4).mono ?_
  rintro e w5 ⟨rfl, hb'⟩
  have hb5 : Below W3.1.size W3 w5 := (hb4).trans (hb'.mono (hb4).size)
  clear hb'
  dsimp only
  refine hK.out _ _ (HCT.out _ hb5) (fun hS => ?_)
  clear hK
  refine tkH 4 ?_
  refine tkH 5 ?_
  refine tkH 6 ?_
  refine tkH 7 ?_
  refine oneH 8 (fun K hK => ?_)
  go_simp
  refine (HER.out _ hb5).mono ?_
  rintro e w6 ⟨rfl, hb'⟩
  have hb6 : Below W3.1.size W3 w6 := (hb5).trans (hb'.mono (hb5).size)
  clear hb'
  dsimp only
  refine hK.out _ _ (HCT.out _ hb6) (fun hS => ?_)
  clear hK
  refine tkH 9 ?_
  refine tkH 10 ?_
  refine tkH 11 ?_
  refine tkH 12 ?_
  refine tkH 17 ?_
  refine oneH 13 (fun K hK => ?_)
  go_simp
  refine (HTT.out _ hb6).mono ?_
  rintro e w7 ⟨Qi, Qj, Qk, Qn, Qm, Qo, rfl, hr7, hb'⟩
  have hb7 : Below W3.1.size W3 w7 := hb6.trans (hb'.mono hb6.size)
  have hj1 := HQ.out Qj hr7.eni
  have hj2 := HQ2.out Qj hr7.eni
  clear hb' hr7
  dsimp only
  refine hK.out _ _ (HCT.out _ hb7) (fun hS => ?_)
  clear hK
  refine tkH 14 ?_
  refine tkH 15 ?_
  refine tkH 16 ?_
  refine oneH 18 (fun K hK => ?_)
  go_simp
  refine (HER.out _ hb7).mono ?_
  rintro e w8 ⟨rfl, hb'⟩
  have hb8 : Below W3.1.size W3 w8 := (hb7).trans (hb'.mono (hb7).size)
  clear hb'
  dsimp only
  refine hK.out _ _ (HCT.out _ hb8) (fun hS => ?_)
  clear hK
  refine tkH 19 ?_
  refine tkH 20 ?_
  refine wpAnyH_done (by kernel_rfl) ?_ _
  clear hS
  have HB8 := dh hb8
  have HB8w := dh (HB3.out.trans (hb8.mono HB3.out.size))
  obtain ⟨p0, p1⟩ := HCK.out _ hb8
  obtain ⟨s0, s1, s2⟩ := HCT.out _ hb8
  have HA8 := dh (HAW3.out _ hb8)
  clear hb4 hb5 hb6 hb7 hb8
  cases ok
  ·obtain ⟨-, e1, e2⟩ := HK0.out rfl
   subst e1 e2
   go_wp2_with fail
   refine HA8.out.mono ?_
   rintro e w9 ⟨rfl, hb9⟩
   have HBF := dh (HB0.out.trans ((HB8w.out.trans (hb9.mono HB8w.out.size)).mono hq0))
   clear hb9
   go_wp2_with fail
   go_ret
   exact ⟨rfl, HBF.out⟩
  ·obtain ⟨h1, h2, h3, h4, h5, h6, h7, h8⟩ := HK1.out rfl
   have hnl : n1 < 24 ∧ n2 ≤ 392 ∧ 0 < n2 := by
    have hwl1 := HL1.out
    have hwl2 := HL2.out
    simp [natI] at hwl1 hwl2
    omega
   have HRC := dh (rCheck_any A1 A2 n1 c1 n2 c2 (natI st) (natI lo) w8 HL1.out HL2.out (by omega))
   have e8 : (if n2 = 0 then (8 : Int) else 0) = 0 := if_neg (by omega)
   rw [e8] at HRC
   have HRL : Hid (∀ W', Calls Tryd.prog 35 #[.agg #[.slice A1 n1 c1, .slice A2 n2 c2]] W' (Num W' ((n1 + n2 : Nat) : Int))) := dh (fun W' => rLen_any A1 A2 n1 c1 n2 c2 W' (by omega))
   have hgt : decide ((2000 : Int) < ((n1 + n2 : Nat) : Int)) = false := by simp; omega
   have HRT : Hid (∀ W', Below W3.1.size W3 W' → Calls Tryd.prog 20 #[.agg #[.int .i64 a.sets, .slice Ai ni ci, .slice An nn cn], .agg #[.slice A1 n1 c1, .slice A2 n2 c2]] W' (Tru W' true)) := dh (fun W' hb => by
    have hb0 := HB3.out.trans (hb.mono HB3.out.size)
    have hk0 : nn * (n1 + n2) ≤ 24 * 416 := Nat.mul_le_mul hnn (by omega)
    have hk1 : nn * (n1 + n2) * 60 ≤ 24 * 416 * 60 := Nat.mul_le_mul_right _ hk0
    have h := takesR_any a Ai ni ci An nn cn A1 A2 n1 c1 n2 c2 (natI st) (natI lo) W' W'.1.size ((HRD.out.below hb0 hq0).up (Nat.le_trans hq0 hb0.size)) ((HWR.out.below hb hw3).up (Nat.le_trans hw3 hb.size)) lR (by omega) (by omega) (natI_u64 h7) (natI_u64 h8) HND.out 60 HC5.out (by omega) (by omega) (by omega)
    have e : (decide (chkA a = 0) && decide (0 < n2) && accB a (wordA (natI st) (natI lo)) n1) = true := by
     rw [decide_eq_true h1, decide_eq_true hnl.2.2, wordA_nat]
     have : n1 = st.length := by simpa [natI] using HL1.out
     rw [this]
     exact accB_iff.2 h6
    rwa [e] at h)
   clear h1 h2 h3 h4 h5 h6 h7 h8 e8
   go_wp2_with fail
   refine HRC.out.mono ?_
   rintro e wa ⟨rfl, hba⟩
   have hbA := HB8.out.trans (hba.mono HB8.out.size)
   have HBA := dh hbA
   obtain ⟨p0, p1⟩ := HCK.out _ hbA
   obtain ⟨s0, s1, s2⟩ := HCT.out _ hbA
   clear hba hbA
   go_wp2_with fail
   refine (HRL.out _).mono ?_
   rintro e wb ⟨rfl, hbb⟩
   have hbB := HBA.out.trans (hbb.mono HBA.out.size)
   have HBB := dh hbB
   obtain ⟨p0, p1⟩ := HCK.out _ hbB
   obtain ⟨s0, s1, s2⟩ := HCT.out _ hbB
   clear hbb hbB
   go_wp2_with fail
   refine (HRT.out _ HBB.out).mono ?_
   rintro e wc ⟨rfl, hbc⟩
   have hbC := HBB.out.trans (hbc.mono HBB.out.size)
   have HBC := dh hbC
   have HAC := dh (HAW3.out _ hbC)
   clear hbc hbC
   go_wp2_with fail
   refine HAC.out.mono ?_
   rintro e wd ⟨rfl, hbd⟩
   have HBF := dh (HB0.out.trans ((HB3.out.trans ((HBC.out.trans (hbd.mono HBC.out.size)).mono HB3.out.size)).mono hq0))
   clear hbd
   go_wp2_with fail
   go_ret
   exact ⟨rfl, HBF.out⟩
end Go.Proofs.YtiebpncpdbnelaaDoor
namespace Go.Proofs.YtiebpncpdbnelaaDoor
def moreA (a : Aut) (m : Nat) : Aut := ⟨a.sets, a.init ++ [(m : Int)], a.nodes⟩
def fewN (s : Nat) (x : ANd) : ANd := ⟨x.need, x.ban, bare64 x.inn (2 ^ s), x.to⟩
def fewA (a : Aut) (s : Nat) : Aut := ⟨(s : Int), a.init, a.nodes.map (fewN s)⟩
theorem fewA_at (a : Aut) (s q : Nat) : (fewA a s).at q = fewN s (a.at q) := by
 unfold Aut.at fewA
 rw [gD, gD, List.getElem?_map]
 cases a.nodes[q]? with
 | none => simp [fewN, ANd.none, bare64]
 | some x => rfl
theorem at_inn {a : Aut} (h : ∀ x ∈ a.nodes, x.inn < 2 ^ 64) (q : Nat) : (a.at q).inn < 2 ^ 64 := by
 unfold Aut.at
 rw [gD]
 cases hx : a.nodes[q]? with
 | none => simp [ANd.none]
 | some x => exact h x (List.mem_of_getElem? hx)
theorem more_acc {a : Aut} {m : Nat} {W : List Nat} {lp : Nat} (h : Acc a W lp) : Acc (moreA a m) W lp := by
 obtain ⟨r, h0, h1⟩ := h
 exact ⟨r, List.mem_append_left _ h0, ⟨h1.lt, h1.rds, h1.to, h1.met⟩⟩
theorem few_acc {a : Aut} {s : Nat} (hs : s < 64) (hss : a.sets = (s : Int) + 1) (hin : ∀ x ∈ a.nodes, x.inn < 2 ^ 64) {W : List Nat} {lp : Nat} (h : Acc a W lp) : Acc (fewA a s) W lp := by
 obtain ⟨r, h0, h1⟩ := h
 refine ⟨r, h0, ⟨fun k => by have := h1.lt k; simpa [fewA] using this, fun k => ?_, fun k => ?_, fun i hi k => ?_⟩⟩
 ·rw [fewA_at]; exact h1.rds k
 ·rw [fewA_at]; exact h1.to k
 ·have hi' : i < s := by simpa [fewA] using hi
  obtain ⟨m, hm, hb⟩ := h1.met i (by rw [hss]; omega) k
  refine ⟨m, hm, ?_⟩
  rw [fewA_at]
  show (bare64 _ _).testBit i = true
  rw [bare64_bit (at_inn hin _) (Nat.pow_lt_pow_right (by omega) hs), hb, Nat.testBit_two_pow]
  simp; omega
theorem more_chk {a : Aut} {m : Nat} (h : chkA a = 0) (hm : m < a.nodes.length) : chkA (moreA a m) = 0 := by
 obtain ⟨h1, h2, h3, h4⟩ := chk_iff.1 h
 refine chkA_zero h1 h2 ⟨fun i hi => ?_, h3.2⟩ h4
 rcases List.mem_append.1 hi with hi | hi
 ·exact h3.1 i hi
 ·rw [mS] at hi
  subst hi
  exact isNd_iff.2 ⟨by omega, by show (m : Int) < (a.nodes.length : Int); omega⟩
theorem few_chk {a : Aut} {s : Nat} (h : chkA a = 0) (hss : a.sets = (s : Int) + 1) (hin : ∀ x ∈ a.nodes, x.inn < 2 ^ 64) : chkA (fewA a s) = 0 := by
 obtain ⟨h1, h2, h3, h4⟩ := chk_iff.1 h
 have hl : (fewA a s).nodes.length = a.nodes.length := by simp [fewA]
 refine chkA_zero (by rw [hl]; exact h1) ⟨by show (0 : Int) ≤ s; omega, by show (s : Int) ≤ 16; omega⟩ ⟨fun i hi => by rw [hl]; exact h3.1 i hi, fun x hx t ht => ?_⟩ (fun x hx => ?_)
 ·obtain ⟨y, hy, rfl⟩ := List.mem_map.1 hx
  rw [hl]; exact h3.2 y hy t ht
 ·obtain ⟨y, hy, rfl⟩ := List.mem_map.1 hx
  have hb := h4 y hy
  have hst : a.sets.toNat = s + 1 := by omega
  rw [hst] at hb
  show bare64 y.inn (2 ^ s) < 2 ^ ((s : Int)).toNat
  rw [tN]
  refine Nat.lt_pow_two_of_testBit _ (fun i hi => ?_)
  rw [bare64_bit (hin y hy) (Nat.pow_lt_pow_right (by omega) (by omega)), Nat.testBit_two_pow]
  by_cases e : s = i
  ·simp [e]
  ·rw [Nat.testBit_lt_two_pow (Nat.lt_of_lt_of_le hb (Nat.pow_le_pow_right (by omega) (by omega)))]; rfl
noncomputable def tkV (a : Aut) (n2 : Nat) (W : List Nat) (lp : Nat) : Bool := decide (chkA a = 0) && decide (0 < n2) && accB a W lp
theorem tkV_iff {a : Aut} {n2 : Nat} {W : List Nat} {lp : Nat} : tkV a n2 W lp = true ↔ chkA a = 0 ∧ 0 < n2 ∧ Acc a W lp := by
 unfold tkV
 rw [Bool.and_eq_true, Bool.and_eq_true, decide_eq_true_eq, decide_eq_true_eq, accB_iff, and_assoc]
theorem more_tk {a : Aut} {m n2 : Nat} {W : List Nat} {lp : Nat} (h : tkV a n2 W lp = true) (hm : m < a.nodes.length) : tkV (moreA a m) n2 W lp = true := by
 obtain ⟨h1, h2, h3⟩ := tkV_iff.1 h
 exact tkV_iff.2 ⟨more_chk h1 hm, h2, more_acc h3⟩
theorem few_tk {a : Aut} {s n2 : Nat} {W : List Nat} {lp : Nat} (h : tkV a n2 W lp = true) (hss : a.sets = (s : Int) + 1) (hin : ∀ x ∈ a.nodes, x.inn < 2 ^ 64) : tkV (fewA a s) n2 W lp = true := by
 obtain ⟨h1, h2, h3⟩ := tkV_iff.1 h
 have := (chk_iff.1 h1).sets
 exact tkV_iff.2 ⟨few_chk h1 hss hin, h2, few_acc (by omega) hss hin h3⟩
end Go.Proofs.YtiebpncpdbnelaaDoor
