/- Texts that stand one behind the other, in one file. -/
import Derived.Test.YtiebpncpdbnelaaGreatDoorRows
import Derived.ShutString
import Derived.OpenShut
import Derived.Test.YtiebpncpdbnelaaGreatDoorZbn
set_option maxHeartbeats 4000000
set_option maxRecDepth 100000
namespace Go.Proofs.YtiebpncpdbnelaaGreatDoor
open Go.RowKit Go.Maps
theorem lawI28 : Keyed Tryz.prog 3 := int_keyed Tryz.underlying3
theorem keyI28 {x : Int} (h : -9223372036854775808 ≤ x ∧ x ≤ 9223372036854775807) : keyOf Tryz.prog 3 (.int .i64 x) = some (.int .i64 x) :=
 keyOf_int_mk Tryz.underlying3 (by rw [Lit.wf, show IntKind.i64.min = -9223372036854775808 from rfl, show IntKind.i64.max = 9223372036854775807 from rfl]; simp; omega)
def IMap (w : World) (mb : Nat) (L : List Int) : Prop :=
 ∃ D : DataW Unit, w.ownsMap Tryz.prog 3 (plainElem Tryz.prog 4) mb L.length D ∧ IsMap D ∧ ∀ x : Int, D.atKey (.int .i64 x) (.lit (.bool false)) = .lit (.bool (decide (x ∈ L)))
theorem IMap.lt {w : World} {mb : Nat} {L : List Int} (h : IMap w mb L) : mb < w.1.size := by obtain ⟨D, hD, _⟩ := h; exact hD.lt
theorem IMap.keep {S : Nat → Prop} {w w' : World} {mb : Nat} {L : List Int} (h : IMap w mb L) (ht : Tch S w w') (hS : ¬ S mb) : IMap w' mb L := by
 obtain ⟨D, ⟨es, clock, hb, F, hs, hD⟩, h2, h3⟩ := h
 exact ⟨D, ⟨es, clock, ht.blk hb hS, F, hs, hD⟩, h2, h3⟩
theorem IMap.of_blk {w : World} {mb : Nat} (h : w.1[mb]? = some (.map #[] 0)) : IMap w mb [] :=
 ⟨.map [], ⟨#[], 0, h, ⟨by simp, MapKept.stamped_empty 0, by simp⟩, lR, rfl⟩, isMap_empty, fun x => rfl⟩
theorem IMap.lookup {w : World} {mb : Nat} {L : List Int} (h : IMap w mb L) {x : Int} (hx : -9223372036854775808 ≤ x ∧ x ≤ 9223372036854775807) :
  (Instr.lookup 49 (.map (some mb)) (.int .i64 x) false).run Tryz.prog w = .ok (.bool (decide (x ∈ L))) w := by
 obtain ⟨D, h1, _, h3⟩ := h
 have hz : (zeroValue 4).run Tryz.prog w = .ok (.bool false) w := by kernel_rfl
 obtain ⟨v, ps, hr, hv⟩ := h1.lookup lawI28 Tryz.underlying49 hz (plainElem_bool Tryz.underlying4 false) (keyI28 hx)
 rw [h3 x] at hv
 have e : v = .bool (decide (x ∈ L)) := plainElem_bool_inv Tryz.underlying4 hv
 rw [← e]; exact hr
theorem IMap.update {w : World} {mb : Nat} {L : List Int} (h : IMap w mb L) {x : Int} (hx : -9223372036854775808 ≤ x ∧ x ≤ 9223372036854775807) (hl : L.length ≤ 1000000) :
  ∃ w', (Instr.mapUpdate 49 (.map (some mb)) (.int .i64 x) (.bool true)).run Tryz.prog w = .ok () w' ∧ IMap w' mb (L ++ [x]) ∧ w.grownBy w' (some mb) := by
 obtain ⟨D, h1, h2, h3⟩ := h
 obtain ⟨w', hr, ho, hg⟩ := h1.update lawI28 Tryz.underlying49 (by unfold maxLen; omega) (keyI28 hx) (plainElem_bool Tryz.underlying4 true)
 refine ⟨w', hr, ⟨_, by rw [lA]; exact ho, h2.put _ _, fun y => ?_⟩, hg⟩
 by_cases e : y = x
 ·subst e
  rw [atKey_put_same h2 (lawI28.key (keyI28 hx))]
  simp
 ·rw [atKey_put_other (by simp; exact e), h3 y]
  simp [e]
end Go.Proofs.YtiebpncpdbnelaaGreatDoor
namespace Go.Proofs.YtiebpncpdbnelaaGreatDoor
theorem own : ownKnob Tryz.prog.godebug = none := by kernel_rfl
theorem laidOut : laidOutB Tryz.prog = true := by kernel_rfl
theorem bd_u64 {x : Int} (h : (Lit.int .u64 x).wf = true) : 0 ≤ x ∧ x ≤ 18446744073709551615 := by
 simp [Lit.wf, IntKind.min, IntKind.max, IntKind.signed, IntKind.bits] at h
 omega
end Go.Proofs.YtiebpncpdbnelaaGreatDoor
namespace Go.Proofs.YtiebpncpdbnelaaGreatDoor
open Go.ChangeShapes Go.WideShapes Go.ChangeAt Go.RowKit Go.Deep
def acells (l : List (ANd × Value)) : List Value := l.flatMap fun x => [.int .u64 (x.1.need : Int), .int .u64 (x.1.ban : Int), .int .u64 (x.1.inn : Int), x.2]
theorem acells_len (l : List (ANd × Value)) : (acells l).length = l.length * 4 := by
 induction l with
 | nil => rfl
 | cons x r ih => simp [acells] at ih ⊢; omega
theorem acells0 (l : List (ANd × Value)) (k : Nat) : (acells l)[k * 4]? = l[k]?.map fun x => .int .u64 (x.1.need : Int) := by
 induction l generalizing k with
 | nil => simp [acells]
 | cons x r ih => cases k with
  | zero => simp [acells]
  | succ k => have := ih k; simp [acells, Nat.succ_mul] at this ⊢; exact this
theorem acells1 (l : List (ANd × Value)) (k : Nat) : (acells l)[k * 4 + 1]? = l[k]?.map fun x => .int .u64 (x.1.ban : Int) := by
 induction l generalizing k with
 | nil => simp [acells]
 | cons x r ih => cases k with
  | zero => simp [acells]
  | succ k => have := ih k; simp [acells, Nat.succ_mul] at this ⊢; exact this
theorem acells2 (l : List (ANd × Value)) (k : Nat) : (acells l)[k * 4 + 2]? = l[k]?.map fun x => .int .u64 (x.1.inn : Int) := by
 induction l generalizing k with
 | nil => simp [acells]
 | cons x r ih => cases k with
  | zero => simp [acells]
  | succ k => have := ih k; simp [acells, Nat.succ_mul] at this ⊢; exact this
theorem acells3 (l : List (ANd × Value)) (k : Nat) : (acells l)[k * 4 + 3]? = l[k]?.map fun x => x.2 := by
 induction l generalizing k with
 | nil => simp [acells]
 | cons x r ih => cases k with
  | zero => simp [acells]
  | succ k => have := ih k; simp [acells, Nat.succ_mul] at this ⊢; exact this
def ANdOk (x : ANd) : Prop := x.need < 2 ^ 64 ∧ x.ban < 2 ^ 64 ∧ x.inn < 2 ^ 64 ∧ x.to.length ≤ 17592186044416 ∧ ∀ n ∈ x.to, (Lit.int .i64 n).wf = true
theorem nat_u64 {x : Int} (h : (Lit.int .u64 x).wf = true) : ∃ k : Nat, x = k ∧ k < 2 ^ 64 := by
 have := bd_u64 h
 exact ⟨x.toNat, by omega, by omega⟩
section
variable {H : Type} {enc : TypeId × Value → H} {P : Program} {w : World} {base : Nat} {spare : Nat → Bool} {held : Bool}
theorem open_anodes {t e te : TypeId} {f0 f1 f2 f3 : Field} {fuel : Nat} {cs : List Value} {x : DataW H × List MemPlace} (ht : P.underlying t = some (.slice e)) (he : P.underlying e = some (.struct #[f0, f1, f2, f3])) (hone : oneCellFields P #[f0, f1, f2, f3] = true) (hC : P.cellsOf e = 4)
  (h0 : P.underlying f0.type = some (.int .u64)) (h1 : P.underlying f1.type = some (.int .u64)) (h2 : P.underlying f2.type = some (.int .u64)) (h3 : P.underlying f3.type = some (.slice te)) (hte : P.cellsOf te = 1) (hti : P.underlying te = some (.int .i64)) (hb8 : P.bytesOf te = 8)
  (h : DataW.trod enc P w base spare held fuel t cs = some x) (hsm : Small P t x.1) :
  ∃ (A : Option Addr) (c : Nat) (l : List (ANd × Value)), cs = [.slice A l.length c] ∧ Sl w w.1.size 4 A l.length c (acells l) ∧ (∀ y ∈ l, ∃ A' c', y.2 = .slice A' y.1.to.length c' ∧ Sl w w.1.size 1 A' y.1.to.length c' (icells y.1.to)) ∧ (∀ y ∈ l, ANdOk y.1) ∧ l.length * P.bytesOf e ≤ reachBytes := by
 rcases open_slice ht h with ⟨hcs, _⟩ | ⟨a, len, cap, m, n, D, Pl, hcs, hb, hl, hm, hmm, hx, hi⟩
 ·exact ⟨none, 0, [], hcs, Sl.none_ _ _ _, by simp, by simp, by simp⟩
 ·have hlm : len ≤ m := by rw [hmm]; split <;> omega
  rw [hx] at hsm
  obtain ⟨hs1, hs2⟩ := small_slice ht hsm
  have key : ∀ i, i < len → ∃ y : ANd × Value, w.cell? (a.add (i * 4)) = some (.int .u64 (y.1.need : Int)) ∧ w.cell? (a.add (i * 4 + 1)) = some (.int .u64 (y.1.ban : Int)) ∧ w.cell? (a.add (i * 4 + 2)) = some (.int .u64 (y.1.inn : Int)) ∧ w.cell? (a.add (i * 4 + 3)) = some y.2 ∧
    (∃ A' c', y.2 = .slice A' y.1.to.length c' ∧ Sl w w.1.size 1 A' y.1.to.length c' (icells y.1.to)) ∧ ANdOk y.1 := by
   intro i hlt
   obtain ⟨cs', hc, hd⟩ := hi i (by omega)
   rw [hC] at hc
   obtain ⟨_, hcl, hat⟩ := World.cells?_some hc
   obtain ⟨ys, n', _, hD, _, hyl, hf⟩ := DataW.trod_struct he hd
   have hyl4 : ys.length = 4 := hyl
   have hsi := hs2 (D i) (List.mem_map.2 ⟨i, List.mem_range.2 hlt, rfl⟩)
   have hDi : D i = .agg (ys.map (·.1)) := congrArg Prod.fst hD
   rw [hDi] at hsi
   obtain ⟨o0, k0⟩ := hone_of hone 0 f0 rfl
   obtain ⟨o1, k1⟩ := hone_of hone 1 f1 rfl
   obtain ⟨o2, k2⟩ := hone_of hone 2 f2 rfl
   obtain ⟨o3, k3⟩ := hone_of hone 3 f3 rfl
   match cs', hcl with
   | [u0, u1, u2, u3], _ =>
    have e0 := hf 0 f0 rfl
    have e1 := hf 1 f1 rfl
    have e2 := hf 2 f2 rfl
    have e3 := hf 3 f3 rfl
    rw [o0, k0] at e0
    rw [o1, k1] at e1
    rw [o2, k2] at e2
    rw [o3, k3] at e3
    have g0 := hat 0 (by omega)
    have g1 := hat 1 (by omega)
    have g2 := hat 2 (by omega)
    have g3 := hat 3 (by omega)
    rw [add_add] at g0 g1 g2 g3
    have hq : ∀ j, j < 4 → ∃ q, ys[j]? = some q := fun j hj => ⟨_, gE (by omega)⟩
    obtain ⟨q0, hq0⟩ := hq 0 (by omega)
    obtain ⟨q1, hq1⟩ := hq 1 (by omega)
    obtain ⟨q2, hq2⟩ := hq 2 (by omega)
    obtain ⟨q3, hq3⟩ := hq 3 (by omega)
    rw [hq0] at e0
    rw [hq1] at e1
    rw [hq2] at e2
    rw [hq3] at e3
    obtain ⟨p0, hp0, _, w0⟩ := DataW.trod_int h0 e0
    obtain ⟨p1, hp1, _, w1⟩ := DataW.trod_int h1 e1
    obtain ⟨p2, hp2, _, w2⟩ := DataW.trod_int h2 e2
    have hsm3 : Small P f3.type q3.1 := small_agg he hsi (i := 3) rfl (by rw [List.getElem?_map, hq3]; rfl)
    obtain ⟨A', c', tl, e4, s4, b4, wf4⟩ := open_nums h3 hte hti e3 hsm3
    simp at hp0 hp1 hp2 e4
    subst hp0; subst hp1; subst hp2; subst e4
    obtain ⟨n0, rfl, l0⟩ := nat_u64 w0
    obtain ⟨n1, rfl, l1⟩ := nat_u64 w1
    obtain ⟨n2, rfl, l2⟩ := nat_u64 w2
    rw [hb8] at b4
    simp only [reachBytes] at b4
    exact ⟨(⟨n0, n1, n2, tl⟩, .slice A' tl.length c'), by simpa using g0, by simpa using g1, by simpa using g2, by simpa using g3, ⟨A', c', rfl, s4⟩, l0, l1, l2, by dsimp only; omega, wf4⟩
  have key2 : ∀ k, k ≤ len → ∃ l : List (ANd × Value), l.length = k ∧ (∀ i (hi : i < l.length), w.cell? (a.add (i * 4)) = some (.int .u64 (l[i].1.need : Int)) ∧ w.cell? (a.add (i * 4 + 1)) = some (.int .u64 (l[i].1.ban : Int)) ∧ w.cell? (a.add (i * 4 + 2)) = some (.int .u64 (l[i].1.inn : Int)) ∧ w.cell? (a.add (i * 4 + 3)) = some l[i].2) ∧
    (∀ y ∈ l, ∃ A' c', y.2 = .slice A' y.1.to.length c' ∧ Sl w w.1.size 1 A' y.1.to.length c' (icells y.1.to)) ∧ ∀ y ∈ l, ANdOk y.1 := by
   intro k
   induction k with
   | zero => intro _; exact ⟨[], rfl, fun i hi => by simp at hi, by simp, by simp⟩
   | succ k ih =>
    intro hk
    obtain ⟨f, hf, hc, hok, hok2⟩ := ih (by omega)
    obtain ⟨y, h1, h2, h3, h4, h5, h6⟩ := key k (by omega)
    refine ⟨f ++ [y], by simp [hf], fun i hi => ?_, fun x hx => ?_, fun x hx => ?_⟩
    ·by_cases hik : i < f.length
     ·rw [List.getElem_append_left hik]; exact hc i hik
     ·have : i = f.length := by simp at hi; omega
      subst this
      rw [List.getElem_append_right lR]
      simp only [Nat.sub_self, List.getElem_cons_zero]
      rw [hf]; exact ⟨h1, h2, h3, h4⟩
    ·simp only [List.mem_append, mS] at hx
     rcases hx with hx | rfl
     ·exact hok x hx
     ·exact h5
    ·simp only [List.mem_append, mS] at hx
     rcases hx with hx | rfl
     ·exact hok2 x hx
     ·exact h6
  obtain ⟨f, hf, hc, hok, hok2⟩ := key2 len lR
  refine ⟨some a, cap, f, by rw [hcs, hf], ⟨acells_len f, by omega, hm, (fun h => by cases h), rd_of_cells fun j u hj => ?_⟩, hok, hok2, by rw [hf]; simpa using hs1⟩
  have hjl : j < (acells f).length := (gB.1 hj).1
  rw [acells_len] at hjl
  have hq : j / 4 < f.length := by omega
  obtain ⟨c0, c1, c2, c3⟩ := hc (j / 4) hq
  have hr : j % 4 = 0 ∨ j % 4 = 1 ∨ j % 4 = 2 ∨ j % 4 = 3 := by omega
  rcases hr with hr | hr | hr | hr
  ·have e : j = j / 4 * 4 := by omega
   rw [e] at hj ⊢
   rw [acells0, gE hq] at hj
   cases hj; exact c0
  ·have e : j = j / 4 * 4 + 1 := by omega
   rw [e] at hj ⊢
   rw [acells1, gE hq] at hj
   cases hj; exact c1
  ·have e : j = j / 4 * 4 + 2 := by omega
   rw [e] at hj ⊢
   rw [acells2, gE hq] at hj
   cases hj; exact c2
  ·have e : j = j / 4 * 4 + 3 := by omega
   rw [e] at hj ⊢
   rw [acells3, gE hq] at hj
   cases hj; exact c3
theorem open_auto {r : Reach} {b0 : Nat} {t ti ti0 tn en te : TypeId} {f0 f1 f2 g0 g1 g2 g3 : Field} {v : Value} {d : DataW H} {p : List MemPlace} (hs : P.underlying t = some (.struct #[f0, f1, f2])) (hone : oneCellFields P #[f0, f1, f2] = true) (hC : P.cellsOf t = 3)
  (e0 : P.underlying f0.type = some (.int .i64)) (e1 : f1.type = ti) (e2 : f2.type = tn) (hti : P.underlying ti = some (.slice ti0)) (hci : P.cellsOf ti0 = 1) (hi0 : P.underlying ti0 = some (.int .i64)) (hbi : P.bytesOf ti0 = 8)
  (htn : P.underlying tn = some (.slice en)) (hen : P.underlying en = some (.struct #[g0, g1, g2, g3])) (honen : oneCellFields P #[g0, g1, g2, g3] = true) (hCn : P.cellsOf en = 4) (h0 : P.underlying g0.type = some (.int .u64)) (h1 : P.underlying g1.type = some (.int .u64)) (h2 : P.underlying g2.type = some (.int .u64)) (h3 : P.underlying g3.type = some (.slice te))
  (hte : P.cellsOf te = 1) (htei : P.underlying te = some (.int .i64)) (hbt : P.bytesOf te = 8) (hbn : P.bytesOf en = 48)
  (hv : Value.okWide P w r b0 t v) (h : DataW.Trod enc P w base spare held t v d p) (hsm : Small P t d) :
  ∃ (a : Aut) (Ai : Option Addr) (ni ci : Nat) (An : Option Addr) (nn cn : Nat), v = .agg #[.int .i64 a.sets, .slice Ai ni ci, .slice An nn cn] ∧ AutRd w w.1.size a Ai ni ci An nn cn ∧ (Lit.int .i64 a.sets).wf = true ∧ a.init.length ≤ 17592186044416 ∧ (∀ n ∈ a.init, (Lit.int .i64 n).wf = true) ∧ a.nodes.length ≤ 2932031007402 ∧ ∀ x ∈ a.nodes, ANdOk x := by
 subst e1; subst e2
 obtain ⟨v0, v1, v2, y0, y1, y2, n, rfl, rfl, _, k0, k1, k2⟩ := Joins.open_agg3 hs hone hC hv h
 obtain ⟨s, hs0, _, ws⟩ := DataW.trod_int e0 k0
 obtain ⟨Ai, ci, li, a1, a2, a3, wi⟩ := open_nums hti hci hi0 k1 (small_agg hs hsm (i := 1) rfl rfl)
 obtain ⟨An, cn, ln, b1, b2, b3, b4, b5⟩ := open_anodes htn hen honen hCn h0 h1 h2 h3 hte htei hbt k2 (small_agg hs hsm (i := 2) rfl rfl)
 simp at hs0 a1 b1
 subst hs0; subst a1; subst b1
 rw [hbi] at a3
 rw [hbn] at b5
 simp only [reachBytes] at a3 b5
 refine ⟨⟨s, li, ln.map (·.1)⟩, Ai, li.length, ci, An, ln.length, cn, rfl, ⟨rfl, by simp, a2, acells ln, b2, fun k x hk => ?_⟩, ws, by dsimp only; omega, wi, by simp only [List.length_map]; omega, fun x hx => ?_⟩
 ·simp only [List.getElem?_map] at hk
  obtain ⟨y, hy, rfl⟩ := Option.map_eq_some_iff.1 hk
  obtain ⟨A', c', e4, s4⟩ := b3 y (List.mem_of_getElem? hy)
  exact ⟨A', c', by rw [acells0, hy]; rfl, by rw [acells1, hy]; rfl, by rw [acells2, hy]; rfl, by rw [acells3, hy, ← e4]; rfl, s4⟩
 ·obtain ⟨y, hy, rfl⟩ := List.mem_map.1 hx
  exact b4 y hy
end
end Go.Proofs.YtiebpncpdbnelaaGreatDoor
namespace Go.Proofs.YtiebpncpdbnelaaGreatDoor
theorem trimF_yes {a : Aut} (h : chkA a = 0) : trimF a = trimA a := by unfold trimF; rw [if_pos h]
end Go.Proofs.YtiebpncpdbnelaaGreatDoor
namespace Go.Proofs.YtiebpncpdbnelaaGreatDoor
def twoA : Aut := ⟨1, [1, 0], [⟨0, 0, 1, [0, 1]⟩, ⟨0, 0, 1, [1, 0]⟩]⟩
def oneA : Aut := ⟨1, [0], [⟨0, 0, 1, [0]⟩]⟩
def cutA : Aut := ⟨1, [0, 1], [⟨1, 0, 1, [0]⟩, ⟨0, 0, 1, [1]⟩]⟩
theorem two_chk : chkA twoA = 0 := by decide
theorem one_chk : chkA oneA = 0 := by decide
theorem cut_chk : chkA cutA = 0 := by decide
theorem simL_is {a : Aut} {r : List (List Bool)} (hr : r = (List.range a.nodes.length).map (fun i => (List.range a.nodes.length).map (fun k => relL r i k))) (h1 : SimR a (fun i k => relL r i k = true)) (h2 : ∀ i k, i < a.nodes.length → k < a.nodes.length → Sim a i k → relL r i k = true) : simL a = r := by
 rw [hr]
 unfold simL
 refine List.map_congr_left (fun i hi => List.map_congr_left (fun k hk => ?_))
 rw [Bool.eq_iff_iff, @decide_eq_true_iff _ (Classical.propDecidable _)]
 exact ⟨h2 i k (List.mem_range.1 hi) (List.mem_range.1 hk), fun h => ⟨_, h1, h⟩⟩
theorem lt2 {i : Nat} (h : i < 2) : i = 0 ∨ i = 1 := by omega
theorem relL_lt {r : List (List Bool)} {i k : Nat} (h : relL r i k = true) : i < r.length ∧ k < (r.getD i []).length := by
 unfold relL at h
 refine ⟨Nat.lt_of_not_le (fun hl => ?_), Nat.lt_of_not_le (fun hl => ?_)⟩
 ·rw [gD (l := r), List.getElem?_eq_none hl] at h; cases h
 ·rw [gD, List.getElem?_eq_none hl] at h; cases h
theorem two_sim : simL twoA = [[true, true], [true, true]] := by
 refine simL_is (by decide) ⟨fun i k h => ?_, fun i k h => ?_, fun i k h t ht => ?_⟩ (fun i k hi hk _ => ?_)
 ·obtain ⟨h1, h2⟩ := relL_lt h
  rcases lt2 h1 with rfl | rfl <;> exact ⟨by decide, h2⟩
 ·obtain ⟨h1, h2⟩ := relL_lt h
  rcases lt2 h1 with rfl | rfl <;> rcases lt2 h2 with rfl | rfl <;> decide
 ·obtain ⟨h1, h2⟩ := relL_lt h
  have htl : t < 2 := by
   rcases lt2 h1 with rfl | rfl
   ·have : (t : Int) ∈ [(0 : Int), 1] := ht
    simp at this; omega
   ·have : (t : Int) ∈ [(1 : Int), 0] := ht
    simp at this; omega
  have h2' : k < 2 := by rcases lt2 h1 with rfl | rfl <;> exact h2
  refine ⟨0, ?_, ?_⟩
  ·rcases lt2 h2' with rfl | rfl <;> decide
  ·rcases lt2 htl with rfl | rfl <;> decide
 ·have hi : i < 2 := hi
  have hk : k < 2 := hk
  rcases lt2 hi with rfl | rfl <;> rcases lt2 hk with rfl | rfl <;> decide
theorem one_sim : simL oneA = [[true]] := by
 refine simL_is (by decide) ⟨fun i k h => ?_, fun i k h => ?_, fun i k h t ht => ?_⟩ (fun i k hi hk _ => ?_)
 ·obtain ⟨h1, h2⟩ := relL_lt h
  have h1 : i < 1 := h1
  obtain rfl : i = 0 := by omega
  exact ⟨by decide, h2⟩
 ·obtain ⟨h1, h2⟩ := relL_lt h
  have h1 : i < 1 := h1
  obtain rfl : i = 0 := by omega
  have h2 : k < 1 := h2
  obtain rfl : k = 0 := by omega
  decide
 ·obtain ⟨h1, h2⟩ := relL_lt h
  have h1 : i < 1 := h1
  obtain rfl : i = 0 := by omega
  have h2 : k < 1 := h2
  obtain rfl : k = 0 := by omega
  have : (t : Int) ∈ [(0 : Int)] := ht
  have ht0 : t = 0 := by simp at this; omega
  subst ht0
  exact ⟨0, by decide, by decide⟩
 ·have hi : i < 1 := hi
  have hk : k < 1 := hk
  obtain rfl : i = 0 := by omega
  obtain rfl : k = 0 := by omega
  decide
theorem cut_sim : simL cutA = [[true, true], [false, true]] := by
 refine simL_is (by decide) ⟨fun i k h => ?_, fun i k h => ?_, fun i k h t ht => ?_⟩ (fun i k hi hk hs => ?_)
 ·obtain ⟨h1, h2⟩ := relL_lt h
  rcases lt2 h1 with rfl | rfl <;> exact ⟨by decide, h2⟩
 ·obtain ⟨h1, h2⟩ := relL_lt h
  rcases lt2 h1 with rfl | rfl
  ·rcases lt2 h2 with rfl | rfl <;> decide
  ·rcases lt2 h2 with rfl | rfl
   ·exact absurd h (by decide)
   ·decide
 ·obtain ⟨h1, h2⟩ := relL_lt h
  rcases lt2 h1 with rfl | rfl
  ·have : (t : Int) ∈ [(0 : Int)] := ht
   have ht0 : t = 0 := by simp at this; omega
   subst ht0
   refine ⟨k, ?_, h⟩
   rcases lt2 h2 with rfl | rfl <;> decide
  ·have : (t : Int) ∈ [(1 : Int)] := ht
   have ht0 : t = 1 := by simp at this; omega
   subst ht0
   rcases lt2 h2 with rfl | rfl
   ·exact absurd h (by decide)
   ·exact ⟨1, by decide, by decide⟩
 ·have hi : i < 2 := hi
  have hk : k < 2 := hk
  rcases lt2 hi with rfl | rfl <;> rcases lt2 hk with rfl | rfl
  ·decide
  ·decide
  ·have := (sim_sim cutA).one 1 0 hs
   revert this; decide
  ·decide
theorem two_merge : mergeA twoA = oneA := by unfold mergeA; rw [two_sim]; decide
theorem one_merge : mergeA oneA = oneA := by unfold mergeA; rw [one_sim]; decide
theorem one_prune : pruneA oneA = oneA := by unfold pruneA; rw [one_sim]; decide
theorem cut_prune : pruneA cutA = ⟨1, [1], [⟨1, 0, 1, [0]⟩, ⟨0, 0, 1, [1]⟩]⟩ := by unfold pruneA; rw [cut_sim]; decide
theorem two_use : [true, true] = useL twoA := by
 have e1 : openE twoA = [[⟨0, 0⟩, ⟨1, 0⟩], [⟨1, 0⟩, ⟨0, 0⟩]] := by decide
 have e2 : asksI (insA twoA) twoA.sets.toNat = [fun _ => true, fun m => ((insA twoA).getD m 0).testBit 0] := rfl
 refine use_uniq rfl (fun q hq => ?_)
 have hq : q < 2 := hq
 rcases lt2 hq with rfl | rfl
 ·refine ⟨fun _ => ⟨.start (by decide) (by decide), run_self (by rw [e1]; exact ⟨by decide, by decide, by decide⟩) (fun p hp => ?_)⟩, fun _ => rfl⟩
  rw [e2] at hp
  simp only [List.mem_cons, List.not_mem_nil, or_false] at hp
  rcases hp with rfl | rfl <;> decide
 ·refine ⟨fun _ => ⟨.start (by decide) (by decide), run_self (by rw [e1]; exact ⟨by decide, by decide, by decide⟩) (fun p hp => ?_)⟩, fun _ => rfl⟩
  rw [e2] at hp
  simp only [List.mem_cons, List.not_mem_nil, or_false] at hp
  rcases hp with rfl | rfl <;> decide
theorem one_use : [true] = useL oneA := by
 have e1 : openE oneA = [[⟨0, 0⟩]] := by decide
 have e2 : asksI (insA oneA) oneA.sets.toNat = [fun _ => true, fun m => ((insA oneA).getD m 0).testBit 0] := rfl
 refine use_uniq rfl (fun q hq => ?_)
 have hq : q < 1 := hq
 obtain rfl : q = 0 := by omega
 refine ⟨fun _ => ⟨.start (by decide) (by decide), run_self (by rw [e1]; exact ⟨by decide, by decide, by decide⟩) (fun p hp => ?_)⟩, fun _ => rfl⟩
 rw [e2] at hp
 simp only [List.mem_cons, List.not_mem_nil, or_false] at hp
 rcases hp with rfl | rfl <;> decide
theorem two_trim : trimA twoA = twoA := by unfold trimA; rw [← two_use]; decide
theorem one_trim : trimA oneA = oneA := by unfold trimA; rw [← one_use]; decide
theorem two_of : ofQ twoA = oneA := by
 have h1 : qstep twoA = oneA := by unfold qstep; rw [two_trim, two_merge, one_prune, one_trim]
 have h2 : qstep oneA = oneA := by unfold qstep; rw [one_trim, one_merge, one_prune, one_trim]
 rw [ofQ_step (chk_iff.1 two_chk) (by rw [h1]; exact fun e => by have := congrArg Aut.init e; cases this), h1]
 exact ofQ_fix (chk_iff.1 one_chk) h2
end Go.Proofs.YtiebpncpdbnelaaGreatDoor
namespace Go.Proofs.YtiebpncpdbnelaaGreatDoor
open Go.RowKit
def heavy33 (a : Aut) (ns nl : Nat) : Bool :=
 decide (16 < a.nodes.length) || (decide (40 < a.init.length) || (decide (12 < ns) || (decide (12 < nl) || a.nodes.any (fun x => decide (40 < x.to.length)))))
theorem heavy33_bd {a : Aut} {ns nl : Nat} (h : heavy33 a ns nl = false) : a.nodes.length ≤ 16 ∧ a.init.length ≤ 40 ∧ ns ≤ 12 ∧ nl ≤ 12 ∧ ∀ x ∈ a.nodes, x.to.length ≤ 40 := by
 simp only [heavy33, Bool.or_eq_false_iff, decide_eq_false_iff_not, List.any_eq_false] at h
 obtain ⟨h1, h2, h3, h4, h5⟩ := h
 exact ⟨by omega, by omega, by omega, by omega, fun l hl => by have := h5 l hl; simp at this; omega⟩
theorem any_snoc33 {α : Type} {l : List α} {p : α → Bool} {k : Nat} (hk : k < l.length) : (l.take (k + 1)).any p = ((l.take k).any p || p l[k]) := by
 have e : l.take (k + 1) = l.take k ++ [l[k]] := by rw [List.take_add_one, gE hk]; rfl
 rw [e, List.any_append, List.any_cons, List.any_nil, Bool.or_false]
theorem any_of33 {α : Type} {l : List α} {p : α → Bool} {k : Nat} (hk : k < l.length) (h : p l[k] = true) : l.any p = true := List.any_eq_true.2 ⟨_, mM hk, h⟩
theorem heavy33_any (a : Aut) (Ai : Option Addr) (ni ci : Nat) (An : Option Addr) (nn cn : Nat) (As : Option Addr) (ns cs : Nat) (Al : Option Addr) (nl cl : Nat) (w : World) (B : Nat) (h : AutRd w B a Ai ni ci An nn cn) (hB : B ≤ w.1.size) :
  Calls Tryz.prog 4 #[.agg #[.int .i64 a.sets, .slice Ai ni ci, .slice An nn cn], .agg #[.slice As ns cs, .slice Al nl cl]] w (Tru w (heavy33 a ns nl)) := by
 obtain ⟨hb0, x0, y0, z0⟩ := two_new w (.cells #[.int .i64 a.sets, .slice Ai ni ci, .slice An nn cn] 25) (.cells #[.slice As ns cs, .slice Al nl cl] 29)
 obtain ⟨W0, hW0⟩ := xQ ((w.alloc (.cells #[.int .i64 a.sets, .slice Ai ni ci, .slice An nn cn] 25)).alloc (.cells #[.slice As ns cs, .slice Al nl cl] 29))
 rw [hW0] at hb0 x0 y0 z0
 have HR0 := dh (h.below hb0 hB)
 have HW0 := dh hW0
 have HB0 := dh hb0
 have q1 : W0.cell? ⟨w.1.size, 1, none⟩ = some (.slice Ai ni ci) := cR x0
 have q2 : W0.cell? ⟨w.1.size, 2, none⟩ = some (.slice An nn cn) := cR x0
 have p0 : W0.cell? ⟨w.1.size + 1, 0, none⟩ = some (.slice As ns cs) := cR y0
 have p1 : W0.cell? ⟨w.1.size + 1, 1, none⟩ = some (.slice Al nl cl) := cR y0
 have HNN := dh HR0.out.enn
 have HD : Hid (heavy33 a ns nl = (decide (16 < nn) || (decide (40 < ni) || (decide (12 < ns) || (decide (12 < nl) || a.nodes.any (fun x => decide (40 < x.to.length))))))) := dh (by rw [heavy33, h.eni, h.enn])
 clear hW0 hb0 x0 y0 z0 h hB
 by_cases c0 : 16 < nn
 ·have d0 : decide ((16 : Int) < (nn : Int)) = true := by simp; omega
  have HR : Hid (heavy33 a ns nl = true) := dh (by rw [HD.out, decide_eq_true c0]; simp)
  clear c0 HD
  go_enter Tryz.func4, Tryz.ntmps4
  go_upto_region 1 with fail
  rw [HW0.out]
  go_wp2_with fail
  go_ret
  exact ⟨ret_bool (by simp [HR.out]), HB0.out⟩
 ·have d0 : decide ((16 : Int) < (nn : Int)) = false := by simp; omega
  by_cases c1 : 40 < ni
  ·have d1 : decide ((40 : Int) < (ni : Int)) = true := by simp; omega
   have HR : Hid (heavy33 a ns nl = true) := dh (by rw [HD.out, decide_eq_false c0, decide_eq_true c1]; simp)
   clear c0 c1 HD
   go_enter Tryz.func4, Tryz.ntmps4
   go_upto_region 1 with fail
   rw [HW0.out]
   go_wp2_with fail
   go_ret
   exact ⟨ret_bool (by simp [HR.out]), HB0.out⟩
  ·have d1 : decide ((40 : Int) < (ni : Int)) = false := by simp; omega
   by_cases c2 : 12 < ns
   ·have d2 : decide ((12 : Int) < (ns : Int)) = true := by simp; omega
    have HR : Hid (heavy33 a ns nl = true) := dh (by rw [HD.out, decide_eq_false c0, decide_eq_false c1, decide_eq_true c2]; simp)
    clear c0 c1 c2 HD
    go_enter Tryz.func4, Tryz.ntmps4
    go_upto_region 1 with fail
    rw [HW0.out]
    go_wp2_with fail
    go_ret
    exact ⟨ret_bool (by simp [HR.out]), HB0.out⟩
   ·have d2 : decide ((12 : Int) < (ns : Int)) = false := by simp; omega
    by_cases c3 : 12 < nl
    ·have d3 : decide ((12 : Int) < (nl : Int)) = true := by simp; omega
     have HR : Hid (heavy33 a ns nl = true) := dh (by rw [HD.out, decide_eq_false c0, decide_eq_false c1, decide_eq_false c2, decide_eq_true c3]; simp)
     clear c0 c1 c2 c3 HD
     go_enter Tryz.func4, Tryz.ntmps4
     go_upto_region 1 with fail
     rw [HW0.out]
     go_wp2_with fail
     go_ret
     exact ⟨ret_bool (by simp [HR.out]), HB0.out⟩
    ·have d3 : decide ((12 : Int) < (nl : Int)) = false := by simp; omega
     have HD2 : Hid (heavy33 a ns nl = a.nodes.any (fun x => decide (40 < x.to.length))) := dh (by rw [HD.out, decide_eq_false c0, decide_eq_false c1, decide_eq_false c2, decide_eq_false c3]; rfl)
     clear HD c1 c2 c3
     go_enter Tryz.func4, Tryz.ntmps4
     go_upto_region 1 with fail
     rw [HW0.out]
     go_wp2_with fail
     clear d0 d1 d2 d3 p0 p1 q1
     go_loopw [5] (fun i wr => ∃ k : Nat, k ≤ nn ∧ i = .int .i64 k ∧ wr = W0 ∧ Hid ((a.nodes.take k).any (fun x => decide (40 < x.to.length)) = false)) (fun i _ => nn - (intOf i).toNat)
     case atStart => exact ⟨0, by omega, rfl, by trivial, dh rfl⟩
     case round =>
      obtain ⟨k, hk, rfl, rfl, ht⟩ := hrel
      by_cases hlt : k < nn
      ·have hkE : k < a.nodes.length := by rw [← HNN.out]; exact hlt
       have hk1 : (k : Int) < (nn : Int) := by omega
       have hk0 : (0 : Int) ≤ (k : Int) := by omega
       have wk : IntKind.i64.wrap ((k : Int) + 1) = (k : Int) + 1 := by rw [wI]; omega
       obtain ⟨b, o, x, At, ct, rfl, hbl, hx, e0, e1, e2, e3, hst⟩ := rd_aut HR0.out hlt
       have hxe : a.nodes[k] = x := by
        rw [gE hkE] at hx; exact Option.some.inj hx
       have hs1 := any_snoc33 (p := fun x : ANd => decide (40 < x.to.length)) hkE
       have hof := fun h => any_of33 (p := fun x : ANd => decide (40 < x.to.length)) hkE h
       rw [hxe] at hs1 hof
       have HS := dh hs1
       have HO := dh hof
       clear hs1 hof hst hx hxe e0 e1 e2
       by_cases hcc : 40 < x.to.length
       ·have d4 : decide ((40 : Int) < (x.to.length : Int)) = true := by simp; omega
        have HC := dh (HO.out (decide_eq_true hcc))
        clear hcc
        go_wp2_with fail
        go_ret
        exact ⟨ret_bool (by simp [HD2.out, HC.out]), HB0.out⟩
       ·have d4 : decide ((40 : Int) < (x.to.length : Int)) = false := by simp; omega
        have HC := dh (decide_eq_false hcc)
        clear hcc
        go_wp2_with fail
        go_roundw
        case rel => exact ⟨k + 1, by omega, congrArg (Value.int .i64) (by omega), by trivial, dh (by rw [HS.out, ht.out, HC.out]; rfl)⟩
        case measure => simp [intOf]; omega
      ·have HT : Hid (a.nodes.any (fun x => decide (40 < x.to.length)) = false) := dh (by have := ht.out; rwa [tL (by rw [← HNN.out]; omega)] at this)
       clear ht
       go_wp2_with fail
       go_ret
       exact ⟨ret_bool (by simp [HD2.out, HT.out]), HB0.out⟩
end Go.Proofs.YtiebpncpdbnelaaGreatDoor
namespace Go.Proofs.YtiebpncpdbnelaaGreatDoor
open Go.RowKit Go.Maps
theorem quotOf_any (x : ANd) (A : Option Addr) (n c : Nat) (w : World) :
  Calls Tryz.prog 22 #[.agg #[.int .u64 (x.need : Int), .int .u64 (x.ban : Int), .int .u64 (x.inn : Int), .slice A n c]] w (fun e w' => e = .returned (.agg #[.int .u64 (x.need : Int), .int .u64 (x.ban : Int), .int .u64 (x.inn : Int)]) ∧ Below w.1.size w w') := by
 obtain ⟨hb0, x0, y0, z0⟩ := two_new w (.cells #[.int .u64 (x.need : Int), .int .u64 (x.ban : Int), .int .u64 (x.inn : Int), .slice A n c] 36) (.cells #[.int .u64 0, .int .u64 0, .int .u64 0] 46)
 obtain ⟨W0, hW0⟩ := xQ ((w.alloc (.cells #[.int .u64 (x.need : Int), .int .u64 (x.ban : Int), .int .u64 (x.inn : Int), .slice A n c] 36)).alloc (.cells #[.int .u64 0, .int .u64 0, .int .u64 0] 46))
 rw [hW0] at hb0 x0 y0 z0
 obtain ⟨q0, q1, q2, q3⟩ := box4A x0
 obtain ⟨y0', y1, y2⟩ := box3A y0
 have f0 := frozen_of_row W0 (w.1.size + 1) 0 _ _ y0
 have f1 := frozen_of_row W0 (w.1.size + 1) 1 _ _ y0
 have f2 := frozen_of_row W0 (w.1.size + 1) 2 _ _ y0
 have yl : w.1.size + 1 < W0.1.size := by omega
 have HW0 := dh hW0
 obtain ⟨Y, hY⟩ := xQ (((W0.setCell ⟨w.1.size + 1, 0, none⟩ (.int .u64 (x.need : Int))).setCell ⟨w.1.size + 1, 1, none⟩ (.int .u64 (x.ban : Int))).setCell ⟨w.1.size + 1, 2, none⟩ (.int .u64 (x.inn : Int)))
 have hset : Y.1[w.1.size + 1]? = some (.cells #[.int .u64 (x.need : Int), .int .u64 (x.ban : Int), .int .u64 (x.inn : Int)] 46 (0, 0)) := by
  rw [← hY, heap_setCell_same _ _ 2 _ _ _ (heap_setCell_same _ _ 1 _ _ _ (heap_setCell_same W0 _ 0 _ _ _ y0))]; rfl
 have hbY : Below w.1.size w Y := by
  rw [← hY]; exact ((hb0.setCell (p := ⟨w.1.size + 1, 0, none⟩) (Nat.le_succ _) _).setCell (p := ⟨w.1.size + 1, 1, none⟩) (Nat.le_succ _) _).setCell (p := ⟨w.1.size + 1, 2, none⟩) (Nat.le_succ _) _
 have HY := dh hY
 have HS := dh hset
 have HB := dh hbY
 clear hW0 hb0 x0 y0 z0 hY hset hbY
 go_enter Tryz.func22, Tryz.ntmps22
 go_upto_region 1 with fail
 rw [HW0.out]
 go_wp2_with fail
 rw [HY.out]
 obtain ⟨g0, g1, g2⟩ := box3A HS.out
 refine bodyPost_ret (v := .agg #[.int .u64 (x.need : Int), .int .u64 (x.ban : Int), .int .u64 (x.inn : Int)]) ?_ rfl ?_
 ·simp [results, Tryz.results22, go_sem, g0, g1, g2]
 ·exact ⟨rfl, HB.out⟩
theorem mapI_look {w : World} {mb n : Nat} {g : Lit → Option Value} (h : GMap w 3 mb n g) (x : Int) (hx : -9223372036854775808 ≤ x ∧ x ≤ 9223372036854775807) (c : Bool) :
  (Instr.lookup 44 (.map (some mb)) (.int .i64 x) c).run Tryz.prog w = .ok (if c then .tuple #[(g (.int .i64 x)).getD (.int .i64 0), .bool (g (.int .i64 x)).isSome] else (g (.int .i64 x)).getD (.int .i64 0)) w :=
 h.look c lawI28 Tryz.underlying44 (by kernel_rfl) (keyI28 hx)
theorem mapI_update {w : World} {mb n : Nat} {g : Lit → Option Value} (h : GMap w 3 mb n g) (x : Int) (hx : -9223372036854775808 ≤ x ∧ x ≤ 9223372036854775807) (hn : n ≤ 1000000) (v : Value) :
  ∃ w1, (Instr.mapUpdate 44 (.map (some mb)) (.int .i64 x) v).run Tryz.prog w = .ok () w1 ∧ (∀ g', PutG g g' (.int .i64 x) v → GMap w1 3 mb (n + 1) g') ∧ w.grownBy w1 (some mb) :=
 h.update lawI28 Tryz.underlying44 (by unfold maxLen; omega) (keyI28 hx) v
def FirstG (l : List Int) (i : Nat) (g : Lit → Option Value) : Prop := ∀ t : Int, g (.int .i64 t) = if t ∈ l.take i then some (.int .i64 (firstP l t : Int)) else none
theorem FirstG.zero (l : List Int) : FirstG l 0 (fun _ => none) := fun t => by simp
theorem FirstG.same {l : List Int} {i : Nat} {g : Lit → Option Value} (h : FirstG l i g) (hi : i < l.length) (hm : l[i] ∈ l.take i) : FirstG l (i + 1) g := fun t => by
 rw [h t]
 have : (t ∈ l.take (i + 1)) ↔ t ∈ l.take i := by
  rw [take_snoc l i hi, List.mem_append, mS]
  exact ⟨fun e => e.elim id (fun e => e ▸ hm), .inl⟩
 simp only [this]
theorem firstP_new {l : List Int} {i : Nat} (hi : i < l.length) (hm : l[i] ∉ l.take i) : firstP l l[i] = i := by
 refine firstB_uniq (Nat.le_of_lt hi) (fun j hj => ?_) (fun _ => by simp [List.getD, hi])
 refine decide_eq_false (fun e => hm ?_)
 rw [gD, gE (by omega)] at e
 have e : l[j] = l[i] := e
 rw [← e]
 exact List.mem_iff_getElem.2 ⟨j, by rw [List.length_take]; omega, by simp⟩
theorem FirstG.put {l : List Int} {i : Nat} {g g' : Lit → Option Value} (h : FirstG l i g) (hi : i < l.length) (hm : l[i] ∉ l.take i) (hp : PutG g g' (.int .i64 l[i]) (.int .i64 (i : Int))) : FirstG l (i + 1) g' := fun t => by
 rw [take_snoc l i hi]
 by_cases e : t = l[i]
 ·subst e
  rw [hp.1, if_pos (List.mem_append_right _ (mS.2 rfl)), firstP_new hi hm]
 ·rw [hp.2 _ (fun h => e (by injection h)), h t]
  have : (t ∈ l.take i ++ [l[i]]) ↔ t ∈ l.take i := by
   rw [List.mem_append, mS]
   exact ⟨fun h => h.elim id (fun h => absurd h e), .inl⟩
  simp only [this]
end Go.Proofs.YtiebpncpdbnelaaGreatDoor
