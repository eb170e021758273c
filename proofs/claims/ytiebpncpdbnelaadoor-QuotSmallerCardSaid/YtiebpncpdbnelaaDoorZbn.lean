/- Texts that stand one behind the other, in one file. -/
import Derived.Test.YtiebpncpdbnelaaDoorZae
import Derived.Test.YtiebpncpdbnelaaDoorRows
import Derived.Test.YtiebpncpdbnelaaDoorZaf
import Derived.ShutString
import Derived.OpenShut
namespace Go.Proofs.YtiebpncpdbnelaaDoor
open Go.RowKit Go.Maps
theorem lawI28 : Keyed Tryd.prog 3 := int_keyed Tryd.underlying3
theorem keyI28 {x : Int} (h : -9223372036854775808 ≤ x ∧ x ≤ 9223372036854775807) : keyOf Tryd.prog 3 (.int .i64 x) = some (.int .i64 x) :=
 keyOf_int_mk Tryd.underlying3 (by rw [Lit.wf, show IntKind.i64.min = -9223372036854775808 from rfl, show IntKind.i64.max = 9223372036854775807 from rfl]; simp; omega)
def IMap (w : World) (mb : Nat) (L : List Int) : Prop :=
 ∃ D : DataW Unit, w.ownsMap Tryd.prog 3 (plainElem Tryd.prog 4) mb L.length D ∧ IsMap D ∧ ∀ x : Int, D.atKey (.int .i64 x) (.lit (.bool false)) = .lit (.bool (decide (x ∈ L)))
theorem IMap.lt {w : World} {mb : Nat} {L : List Int} (h : IMap w mb L) : mb < w.1.size := by obtain ⟨D, hD, _⟩ := h; exact hD.lt
theorem IMap.keep {S : Nat → Prop} {w w' : World} {mb : Nat} {L : List Int} (h : IMap w mb L) (ht : Tch S w w') (hS : ¬ S mb) : IMap w' mb L := by
 obtain ⟨D, ⟨es, clock, hb, F, hs, hD⟩, h2, h3⟩ := h
 exact ⟨D, ⟨es, clock, ht.blk hb hS, F, hs, hD⟩, h2, h3⟩
theorem IMap.of_blk {w : World} {mb : Nat} (h : w.1[mb]? = some (.map #[] 0)) : IMap w mb [] :=
 ⟨.map [], ⟨#[], 0, h, ⟨by simp, MapKept.stamped_empty 0, by simp⟩, lR, rfl⟩, isMap_empty, fun x => rfl⟩
theorem IMap.lookup {w : World} {mb : Nat} {L : List Int} (h : IMap w mb L) {x : Int} (hx : -9223372036854775808 ≤ x ∧ x ≤ 9223372036854775807) :
  (Instr.lookup 55 (.map (some mb)) (.int .i64 x) false).run Tryd.prog w = .ok (.bool (decide (x ∈ L))) w := by
 obtain ⟨D, h1, _, h3⟩ := h
 have hz : (zeroValue 4).run Tryd.prog w = .ok (.bool false) w := by kernel_rfl
 obtain ⟨v, ps, hr, hv⟩ := h1.lookup lawI28 Tryd.underlying55 hz (plainElem_bool Tryd.underlying4 false) (keyI28 hx)
 rw [h3 x] at hv
 have e : v = .bool (decide (x ∈ L)) := plainElem_bool_inv Tryd.underlying4 hv
 rw [← e]; exact hr
theorem IMap.update {w : World} {mb : Nat} {L : List Int} (h : IMap w mb L) {x : Int} (hx : -9223372036854775808 ≤ x ∧ x ≤ 9223372036854775807) (hl : L.length ≤ 1000000) :
  ∃ w', (Instr.mapUpdate 55 (.map (some mb)) (.int .i64 x) (.bool true)).run Tryd.prog w = .ok () w' ∧ IMap w' mb (L ++ [x]) ∧ w.grownBy w' (some mb) := by
 obtain ⟨D, h1, h2, h3⟩ := h
 obtain ⟨w', hr, ho, hg⟩ := h1.update lawI28 Tryd.underlying55 (by unfold maxLen; omega) (keyI28 hx) (plainElem_bool Tryd.underlying4 true)
 refine ⟨w', hr, ⟨_, by rw [lA]; exact ho, h2.put _ _, fun y => ?_⟩, hg⟩
 by_cases e : y = x
 ·subst e
  rw [atKey_put_same h2 (lawI28.key (keyI28 hx))]
  simp
 ·rw [atKey_put_other (by simp; exact e), h3 y]
  simp [e]
end Go.Proofs.YtiebpncpdbnelaaDoor
namespace Go.Proofs.YtiebpncpdbnelaaDoor
theorem own : ownKnob Tryd.prog.godebug = none := by kernel_rfl
theorem laidOut : laidOutB Tryd.prog = true := by kernel_rfl
theorem bd_u64 {x : Int} (h : (Lit.int .u64 x).wf = true) : 0 ≤ x ∧ x ≤ 18446744073709551615 := by
 simp [Lit.wf, IntKind.min, IntKind.max, IntKind.signed, IntKind.bits] at h
 omega
end Go.Proofs.YtiebpncpdbnelaaDoor
namespace Go.Proofs.YtiebpncpdbnelaaDoor
open Go.ChangeShapes Go.WideShapes Go.ChangeAt Go.RowKit Go.Deep
def acells (l : List (ANd × Value)) : List Value := l.flatMap fun x => [.int .u64 (x.1.need : Int), .int .u64 (x.1.ban : Int), .int .u64 (x.1.inn : Int), x.2]
theorem acells_len (l : List (ANd × Value)) : (acells l).length = l.length * 4 := by
 induction l with
 | nil => rfl
 | cons x r ih => simp [acells] at ih ⊢; omega
theorem acells0 (l : List (ANd × Value)) (k : Nat) : (acells l)[k * 4]? = l[k]?.map fun x => .int .u64 (x.1.need : Int) := by
 induction l generalizing k with
 | nil => simp [acells]
 | cons x r ih => cases k with
  | zero => simp [acells]
  | succ k => have := ih k; simp [acells, Nat.succ_mul] at this ⊢; exact this
theorem acells1 (l : List (ANd × Value)) (k : Nat) : (acells l)[k * 4 + 1]? = l[k]?.map fun x => .int .u64 (x.1.ban : Int) := by
 induction l generalizing k with
 | nil => simp [acells]
 | cons x r ih => cases k with
  | zero => simp [acells]
  | succ k => have := ih k; simp [acells, Nat.succ_mul] at this ⊢; exact this
theorem acells2 (l : List (ANd × Value)) (k : Nat) : (acells l)[k * 4 + 2]? = l[k]?.map fun x => .int .u64 (x.1.inn : Int) := by
 induction l generalizing k with
 | nil => simp [acells]
 | cons x r ih => cases k with
  | zero => simp [acells]
  | succ k => have := ih k; simp [acells, Nat.succ_mul] at this ⊢; exact this
theorem acells3 (l : List (ANd × Value)) (k : Nat) : (acells l)[k * 4 + 3]? = l[k]?.map fun x => x.2 := by
 induction l generalizing k with
 | nil => simp [acells]
 | cons x r ih => cases k with
  | zero => simp [acells]
  | succ k => have := ih k; simp [acells, Nat.succ_mul] at this ⊢; exact this
def ANdOk (x : ANd) : Prop := x.need < 2 ^ 64 ∧ x.ban < 2 ^ 64 ∧ x.inn < 2 ^ 64 ∧ x.to.length ≤ 17592186044416 ∧ ∀ n ∈ x.to, (Lit.int .i64 n).wf = true
theorem nat_u64 {x : Int} (h : (Lit.int .u64 x).wf = true) : ∃ k : Nat, x = k ∧ k < 2 ^ 64 := by
 have := bd_u64 h
 exact ⟨x.toNat, by omega, by omega⟩
section
variable {H : Type} {enc : TypeId × Value → H} {P : Program} {w : World} {base : Nat} {spare : Nat → Bool} {held : Bool}
theorem open_anodes {t e te : TypeId} {f0 f1 f2 f3 : Field} {fuel : Nat} {cs : List Value} {x : DataW H × List MemPlace} (ht : P.underlying t = some (.slice e)) (he : P.underlying e = some (.struct #[f0, f1, f2, f3])) (hone : oneCellFields P #[f0, f1, f2, f3] = true) (hC : P.cellsOf e = 4)
  (h0 : P.underlying f0.type = some (.int .u64)) (h1 : P.underlying f1.type = some (.int .u64)) (h2 : P.underlying f2.type = some (.int .u64)) (h3 : P.underlying f3.type = some (.slice te)) (hte : P.cellsOf te = 1) (hti : P.underlying te = some (.int .i64)) (hb8 : P.bytesOf te = 8)
  (h : DataW.trod enc P w base spare held fuel t cs = some x) (hsm : Small P t x.1) :
  ∃ (A : Option Addr) (c : Nat) (l : List (ANd × Value)), cs = [.slice A l.length c] ∧ Sl w w.1.size 4 A l.length c (acells l) ∧ (∀ y ∈ l, ∃ A' c', y.2 = .slice A' y.1.to.length c' ∧ Sl w w.1.size 1 A' y.1.to.length c' (icells y.1.to)) ∧ (∀ y ∈ l, ANdOk y.1) ∧ l.length * P.bytesOf e ≤ reachBytes := by
 rcases open_slice ht h with ⟨hcs, _⟩ | ⟨a, len, cap, m, n, D, Pl, hcs, hb, hl, hm, hmm, hx, hi⟩
 ·exact ⟨none, 0, [], hcs, Sl.none_ _ _ _, by simp, by simp, by simp⟩
 ·have hlm : len ≤ m := by rw [hmm]; split <;> omega
  rw [hx] at hsm
  obtain ⟨hs1, hs2⟩ := small_slice ht hsm
  have key : ∀ i, i < len → ∃ y : ANd × Value, w.cell? (a.add (i * 4)) = some (.int .u64 (y.1.need : Int)) ∧ w.cell? (a.add (i * 4 + 1)) = some (.int .u64 (y.1.ban : Int)) ∧ w.cell? (a.add (i * 4 + 2)) = some (.int .u64 (y.1.inn : Int)) ∧ w.cell? (a.add (i * 4 + 3)) = some y.2 ∧
    (∃ A' c', y.2 = .slice A' y.1.to.length c' ∧ Sl w w.1.size 1 A' y.1.to.length c' (icells y.1.to)) ∧ ANdOk y.1 := by
   intro i hlt
   obtain ⟨cs', hc, hd⟩ := hi i (by omega)
   rw [hC] at hc
   obtain ⟨_, hcl, hat⟩ := World.cells?_some hc
   obtain ⟨ys, n', _, hD, _, hyl, hf⟩ := DataW.trod_struct he hd
   have hyl4 : ys.length = 4 := hyl
   have hsi := hs2 (D i) (List.mem_map.2 ⟨i, List.mem_range.2 hlt, rfl⟩)
   have hDi : D i = .agg (ys.map (·.1)) := congrArg Prod.fst hD
   rw [hDi] at hsi
   obtain ⟨o0, k0⟩ := hone_of hone 0 f0 rfl
   obtain ⟨o1, k1⟩ := hone_of hone 1 f1 rfl
   obtain ⟨o2, k2⟩ := hone_of hone 2 f2 rfl
   obtain ⟨o3, k3⟩ := hone_of hone 3 f3 rfl
   match cs', hcl with
   | [u0, u1, u2, u3], _ =>
    have e0 := hf 0 f0 rfl
    have e1 := hf 1 f1 rfl
    have e2 := hf 2 f2 rfl
    have e3 := hf 3 f3 rfl
    rw [o0, k0] at e0
    rw [o1, k1] at e1
    rw [o2, k2] at e2
    rw [o3, k3] at e3
    have g0 := hat 0 (by omega)
    have g1 := hat 1 (by omega)
    have g2 := hat 2 (by omega)
    have g3 := hat 3 (by omega)
    rw [add_add] at g0 g1 g2 g3
    have hq : ∀ j, j < 4 → ∃ q, ys[j]? = some q := fun j hj => ⟨_, gE (by omega)⟩
    obtain ⟨q0, hq0⟩ := hq 0 (by omega)
    obtain ⟨q1, hq1⟩ := hq 1 (by omega)
    obtain ⟨q2, hq2⟩ := hq 2 (by omega)
    obtain ⟨q3, hq3⟩ := hq 3 (by omega)
    rw [hq0] at e0
    rw [hq1] at e1
    rw [hq2] at e2
    rw [hq3] at e3
    obtain ⟨p0, hp0, _, w0⟩ := DataW.trod_int h0 e0
    obtain ⟨p1, hp1, _, w1⟩ := DataW.trod_int h1 e1
    obtain ⟨p2, hp2, _, w2⟩ := DataW.trod_int h2 e2
    have hsm3 : Small P f3.type q3.1 := small_agg he hsi (i := 3) rfl (by rw [List.getElem?_map, hq3]; rfl)
    obtain ⟨A', c', tl, e4, s4, b4, wf4⟩ := open_nums h3 hte hti e3 hsm3
    simp at hp0 hp1 hp2 e4
    subst hp0; subst hp1; subst hp2; subst e4
    obtain ⟨n0, rfl, l0⟩ := nat_u64 w0
    obtain ⟨n1, rfl, l1⟩ := nat_u64 w1
    obtain ⟨n2, rfl, l2⟩ := nat_u64 w2
    rw [hb8] at b4
    simp only [reachBytes] at b4
    exact ⟨(⟨n0, n1, n2, tl⟩, .slice A' tl.length c'), by simpa using g0, by simpa using g1, by simpa using g2, by simpa using g3, ⟨A', c', rfl, s4⟩, l0, l1, l2, by dsimp only; omega, wf4⟩
  have key2 : ∀ k, k ≤ len → ∃ l : List (ANd × Value), l.length = k ∧ (∀ i (hi : i < l.length), w.cell? (a.add (i * 4)) = some (.int .u64 (l[i].1.need : Int)) ∧ w.cell? (a.add (i * 4 + 1)) = some (.int .u64 (l[i].1.ban : Int)) ∧ w.cell? (a.add (i * 4 + 2)) = some (.int .u64 (l[i].1.inn : Int)) ∧ w.cell? (a.add (i * 4 + 3)) = some l[i].2) ∧
    (∀ y ∈ l, ∃ A' c', y.2 = .slice A' y.1.to.length c' ∧ Sl w w.1.size 1 A' y.1.to.length c' (icells y.1.to)) ∧ ∀ y ∈ l, ANdOk y.1 := by
   intro k
   induction k with
   | zero => intro _; exact ⟨[], rfl, fun i hi => by simp at hi, by simp, by simp⟩
   | succ k ih =>
    intro hk
    obtain ⟨f, hf, hc, hok, hok2⟩ := ih (by omega)
    obtain ⟨y, h1, h2, h3, h4, h5, h6⟩ := key k (by omega)
    refine ⟨f ++ [y], by simp [hf], fun i hi => ?_, fun x hx => ?_, fun x hx => ?_⟩
    ·by_cases hik : i < f.length
     ·rw [List.getElem_append_left hik]; exact hc i hik
     ·have : i = f.length := by simp at hi; omega
      subst this
      rw [List.getElem_append_right lR]
      simp only [Nat.sub_self, List.getElem_cons_zero]
      rw [hf]; exact ⟨h1, h2, h3, h4⟩
    ·simp only [List.mem_append, mS] at hx
     rcases hx with hx | rfl
     ·exact hok x hx
     ·exact h5
    ·simp only [List.mem_append, mS] at hx
     rcases hx with hx | rfl
     ·exact hok2 x hx
     ·exact h6
  obtain ⟨f, hf, hc, hok, hok2⟩ := key2 len lR
  refine ⟨some a, cap, f, by rw [hcs, hf], ⟨acells_len f, by omega, hm, (fun h => by cases h), rd_of_cells fun j u hj => ?_⟩, hok, hok2, by rw [hf]; simpa using hs1⟩
  have hjl : j < (acells f).length := (gB.1 hj).1
  rw [acells_len] at hjl
  have hq : j / 4 < f.length := by omega
  obtain ⟨c0, c1, c2, c3⟩ := hc (j / 4) hq
  have hr : j % 4 = 0 ∨ j % 4 = 1 ∨ j % 4 = 2 ∨ j % 4 = 3 := by omega
  rcases hr with hr | hr | hr | hr
  ·have e : j = j / 4 * 4 := by omega
   rw [e] at hj ⊢
   rw [acells0, gE hq] at hj
   cases hj; exact c0
  ·have e : j = j / 4 * 4 + 1 := by omega
   rw [e] at hj ⊢
   rw [acells1, gE hq] at hj
   cases hj; exact c1
  ·have e : j = j / 4 * 4 + 2 := by omega
   rw [e] at hj ⊢
   rw [acells2, gE hq] at hj
   cases hj; exact c2
  ·have e : j = j / 4 * 4 + 3 := by omega
   rw [e] at hj ⊢
   rw [acells3, gE hq] at hj
   cases hj; exact c3
theorem open_auto {r : Reach} {b0 : Nat} {t ti ti0 tn en te : TypeId} {f0 f1 f2 g0 g1 g2 g3 : Field} {v : Value} {d : DataW H} {p : List MemPlace} (hs : P.underlying t = some (.struct #[f0, f1, f2])) (hone : oneCellFields P #[f0, f1, f2] = true) (hC : P.cellsOf t = 3)
  (e0 : P.underlying f0.type = some (.int .i64)) (e1 : f1.type = ti) (e2 : f2.type = tn) (hti : P.underlying ti = some (.slice ti0)) (hci : P.cellsOf ti0 = 1) (hi0 : P.underlying ti0 = some (.int .i64)) (hbi : P.bytesOf ti0 = 8)
  (htn : P.underlying tn = some (.slice en)) (hen : P.underlying en = some (.struct #[g0, g1, g2, g3])) (honen : oneCellFields P #[g0, g1, g2, g3] = true) (hCn : P.cellsOf en = 4) (h0 : P.underlying g0.type = some (.int .u64)) (h1 : P.underlying g1.type = some (.int .u64)) (h2 : P.underlying g2.type = some (.int .u64)) (h3 : P.underlying g3.type = some (.slice te))
  (hte : P.cellsOf te = 1) (htei : P.underlying te = some (.int .i64)) (hbt : P.bytesOf te = 8) (hbn : P.bytesOf en = 48)
  (hv : Value.okWide P w r b0 t v) (h : DataW.Trod enc P w base spare held t v d p) (hsm : Small P t d) :
  ∃ (a : Aut) (Ai : Option Addr) (ni ci : Nat) (An : Option Addr) (nn cn : Nat), v = .agg #[.int .i64 a.sets, .slice Ai ni ci, .slice An nn cn] ∧ AutRd w w.1.size a Ai ni ci An nn cn ∧ (Lit.int .i64 a.sets).wf = true ∧ a.init.length ≤ 17592186044416 ∧ (∀ n ∈ a.init, (Lit.int .i64 n).wf = true) ∧ a.nodes.length ≤ 2932031007402 ∧ ∀ x ∈ a.nodes, ANdOk x := by
 subst e1; subst e2
 obtain ⟨v0, v1, v2, y0, y1, y2, n, rfl, rfl, _, k0, k1, k2⟩ := Joins.open_agg3 hs hone hC hv h
 obtain ⟨s, hs0, _, ws⟩ := DataW.trod_int e0 k0
 obtain ⟨Ai, ci, li, a1, a2, a3, wi⟩ := open_nums hti hci hi0 k1 (small_agg hs hsm (i := 1) rfl rfl)
 obtain ⟨An, cn, ln, b1, b2, b3, b4, b5⟩ := open_anodes htn hen honen hCn h0 h1 h2 h3 hte htei hbt k2 (small_agg hs hsm (i := 2) rfl rfl)
 simp at hs0 a1 b1
 subst hs0; subst a1; subst b1
 rw [hbi] at a3
 rw [hbn] at b5
 simp only [reachBytes] at a3 b5
 refine ⟨⟨s, li, ln.map (·.1)⟩, Ai, li.length, ci, An, ln.length, cn, rfl, ⟨rfl, by simp, a2, acells ln, b2, fun k x hk => ?_⟩, ws, by dsimp only; omega, wi, by simp only [List.length_map]; omega, fun x hx => ?_⟩
 ·simp only [List.getElem?_map] at hk
  obtain ⟨y, hy, rfl⟩ := Option.map_eq_some_iff.1 hk
  obtain ⟨A', c', e4, s4⟩ := b3 y (List.mem_of_getElem? hy)
  exact ⟨A', c', by rw [acells0, hy]; rfl, by rw [acells1, hy]; rfl, by rw [acells2, hy]; rfl, by rw [acells3, hy, ← e4]; rfl, s4⟩
 ·obtain ⟨y, hy, rfl⟩ := List.mem_map.1 hx
  exact b4 y hy
end
end Go.Proofs.YtiebpncpdbnelaaDoor
