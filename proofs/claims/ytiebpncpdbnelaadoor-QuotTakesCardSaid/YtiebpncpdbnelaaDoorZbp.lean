/- Texts that stand one behind the other, in one file. -/
import Derived.Test.YtiebpncpdbnelaaDoorAu12
import Derived.Test.YtiebpncpdbnelaaDoorAt6
import Derived.Test.YtiebpncpdbnelaaDoorRows
import Derived.ShutString
import Derived.OpenShut
set_option maxHeartbeats 2000000
set_option maxRecDepth 100000
namespace Go.Proofs.YtiebpncpdbnelaaDoor
theorem run_self {E : List (List Nd)} {asks : List (Nat → Bool)} {q : Nat} (ha : Arc E q q) (h : ∀ p ∈ asks, p q = true) : Runs E asks q :=
 ⟨fun _ => q, rfl, fun _ => ha, fun p hp k => ⟨k, lR, h p hp⟩⟩
end Go.Proofs.YtiebpncpdbnelaaDoor
namespace Go.Proofs.YtiebpncpdbnelaaDoor
open Go.RowKit
def wordA (st lo : List Int) : List Nat := (st ++ lo).map Int.toNat
theorem wordA_len (st lo : List Int) : (wordA st lo).length = st.length + lo.length := by simp [wordA]
theorem wordA_at {st lo : List Int} {k : Nat} (hk : k < st.length + lo.length) : (wordA st lo).getD k 0 = (seqW st lo k).toNat := by
 have e : (wordA st lo).getD k 0 = ((st ++ lo).getD k 0).toNat := by
  unfold wordA
  rw [gD, gD, List.getElem?_map, gE (by rw [lA]; exact hk)]; rfl
 rw [e, seqW]
 by_cases h : k < st.length
 ·rw [if_pos h, gD, gC h, gD]
 ·rw [if_neg h, Nat.mod_eq_of_lt (by omega)]
  simp only [List.getD, gR (Nat.le_of_not_lt h)]
theorem u64_bd {l : List Int} (hl : ∀ n ∈ l, 0 ≤ n ∧ n < 18446744073709551616) (i : Nat) : 0 ≤ l.getD i 0 ∧ l.getD i 0 < 18446744073709551616 := by
 rw [gD]
 rcases Nat.lt_or_ge i l.length with hi | hi
 ·rw [gE hi]; exact hl _ (mM hi)
 ·rw [List.getElem?_eq_none hi]; simp
theorem seq_bdA {st lo : List Int} (h1 : ∀ n ∈ st, 0 ≤ n ∧ n < 18446744073709551616) (h2 : ∀ n ∈ lo, 0 ≤ n ∧ n < 18446744073709551616) (k : Nat) : 0 ≤ seqW st lo k ∧ seqW st lo k < 18446744073709551616 := by
 rw [seqW]
 split
 ·exact u64_bd h1 _
 ·exact u64_bd h2 _
theorem wordA_lt {st lo : List Int} (h1 : ∀ n ∈ st, 0 ≤ n ∧ n < 18446744073709551616) (h2 : ∀ n ∈ lo, 0 ≤ n ∧ n < 18446744073709551616) (k : Nat) : (wordA st lo).getD k 0 < 2 ^ 64 := by
 rcases Nat.lt_or_ge k (st.length + lo.length) with hk | hk
 ·rw [wordA_at hk]
  have := seq_bdA h1 h2 k
  omega
 ·rw [gD, List.getElem?_eq_none (by rw [wordA_len]; exact hk)]; decide
theorem wordA_atW {st lo : List Int} (h1 : ∀ n ∈ st, 0 ≤ n ∧ n < 18446744073709551616) (h2 : ∀ n ∈ lo, 0 ≤ n ∧ n < 18446744073709551616) (k : Nat) (hk : k < (wordA st lo).length) : atW st lo (k : Int) = (((wordA st lo).getD k 0 : Nat) : Int) := by
 rw [wordA_len] at hk
 rw [atW, if_neg (by omega), tN, wordA_at hk]
 have := seq_bdA h1 h2 k
 omega
theorem takesB_acc {a : Aut} {W : List Nat} {lp : Nat} (hA : a.Ok) (hlp : lp < W.length) {z : List Bool} (hz : Gfp (prodE a W lp) (asksA a W.length) z) : takesB a W z = accB a W lp := by
 rw [Bool.eq_iff_iff, takesB_iff hA, takes_acc hA hlp hz, accB_iff]
end Go.Proofs.YtiebpncpdbnelaaDoor
namespace Go.Proofs.YtiebpncpdbnelaaDoor
open Go.RowKit
theorem sl_blkA {w : World} {b T n size : Nat} {cs : Array Value} {xs : List Value} {B : Nat} (h : w.1[b]? = some (.cells cs T (0, 0))) (hx : cs.toList = xs) (hn : xs.length = n * size) (hm : n ≤ maxLen) (hb : b < B) : Sl w B size (some ⟨b, 0, none⟩) n n xs := by
 refine ⟨hn, lR, hm, fun h => (by cases h), .inr ⟨b, 0, rfl, hb, fun j u hu => ?_⟩⟩
 rw [Nat.zero_add, cell_of_row w b j _ _ _ h]
 rw [← hx] at hu
 simpa using hu
theorem als (l : List Obj) : ∀ w : World, Below w.1.size w (l.foldl World.alloc w) ∧ (l.foldl World.alloc w).1.size = w.1.size + l.length ∧ ∀ i o, l[i]? = some o → (l.foldl World.alloc w).1[w.1.size + i]? = some o := by
 induction l with
 | nil => exact fun w => ⟨bR, rfl, fun i o h => by cases h⟩
 | cons x l ih =>
  intro w
  obtain ⟨h1, h2, h3⟩ := ih (w.alloc x)
  have hs : (w.alloc x).1.size = w.1.size + 1 := by simp
  rw [hs] at h1 h2 h3
  refine ⟨(bR.alloc lR _).trans (h1.mono (Nat.le_succ _)), by rw [List.foldl_cons, h2, List.length_cons]; omega, fun i o h => ?_⟩
  rw [List.foldl_cons]
  cases i with
  | zero =>
   rw [Nat.add_zero, h1.block _ (Nat.lt_succ_self _), heap_alloc_new w x]
   exact h
  | succ i =>
   rw [show w.1.size + (i + 1) = w.1.size + 1 + i by omega]
   exact h3 i o h
end Go.Proofs.YtiebpncpdbnelaaDoor
namespace Go.Proofs.YtiebpncpdbnelaaDoor
open Go.RowKit
theorem takesN_any (a : Aut) (Ai : Option Addr) (ni ci : Nat) (An : Option Addr) (nn cn : Nat) (A1 A2 : Option Addr) (n1 c1 n2 c2 : Nat) (st lo : List Int) (w : World) (B : Nat) (h : AutRd w B a Ai ni ci An nn cn) (hw : WRd w B A1 A2 n1 c1 n2 c2 st lo) (hB : B ≤ w.1.size) (hl : n1 + n2 ≤ 60000) (hno : ¬ (chkA a = 0 ∧ 0 < n2)) :
  Calls Tryd.prog 20 #[.agg #[.int .i64 a.sets, .slice Ai ni ci, .slice An nn cn], .agg #[.slice A1 n1 c1, .slice A2 n2 c2]] w (Tru w false) := by
 obtain ⟨hb0, x0, y0, z0⟩ := two_new w (.cells #[.int .i64 a.sets, .slice Ai ni ci, .slice An nn cn] 25) (.cells #[.slice A1 n1 c1, .slice A2 n2 c2] 29)
 obtain ⟨W0, hW0⟩ := xQ ((w.alloc (.cells #[.int .i64 a.sets, .slice Ai ni ci, .slice An nn cn] 25)).alloc (.cells #[.slice A1 n1 c1, .slice A2 n2 c2] 29))
 rw [hW0] at hb0 x0 y0 z0
 have HCK := dh (chkR_any a Ai ni ci An nn cn W0 B (h.below hb0 hB) (by omega))
 have HWC := dh (fun w' => rCheck_any A1 A2 n1 c1 n2 c2 st lo w' hw.l1 hw.l2 hl)
 have HW0 := dh hW0
 have HB0 := dh hb0
 have HY0 := dh y0
 have hq : w.1.size + 1 < W0.1.size := by omega
 have hq0 : w.1.size ≤ W0.1.size := by omega
 have q0 : W0.cell? ⟨w.1.size, 0, none⟩ = some (.int .i64 a.sets) := cR x0
 have q1 : W0.cell? ⟨w.1.size, 1, none⟩ = some (.slice Ai ni ci) := cR x0
 have q2 : W0.cell? ⟨w.1.size, 2, none⟩ = some (.slice An nn cn) := cR x0
 clear hW0 hb0 x0 y0 z0 h hw hB hl
 go_enter Tryd.func20, Tryd.ntmps20
 go_upto_region 1 with fail
 rw [HW0.out]
 by_cases hck : chkA a = 0
 ·have hn2 : n2 = 0 := by
   by_cases e : n2 = 0
   ·exact e
   ·exact absurd ⟨hck, by omega⟩ hno
  have hwc := fun w' => HWC.out w'
  rw [if_pos hn2] at hwc
  have HWC2 := dh hwc
  have hc1 := HCK.out
  rw [hck] at hc1
  have HCK2 := dh hc1
  clear hwc hc1 hn2 hck hno HWC HCK
  go_wp2_with fail
  refine HCK2.out.mono ?_
  rintro e w1 ⟨rfl, hb1⟩
  have HB1 := dh (HB0.out.trans (hb1.mono hq0))
  have p0 : w1.cell? ⟨w.1.size + 1, 0, none⟩ = some (.slice A1 n1 c1) := cR ((hb1.block (w.1.size + 1) hq).trans HY0.out)
  have p1 : w1.cell? ⟨w.1.size + 1, 1, none⟩ = some (.slice A2 n2 c2) := cR ((hb1.block (w.1.size + 1) hq).trans HY0.out)
  have hz1 := hb1.size
  clear hb1 q0 q1 q2
  go_wp2_with fail
  refine (HWC2.out _).mono ?_
  rintro e w2 ⟨rfl, hb2⟩
  have HB2 := dh (HB1.out.trans (hb2.mono (show w.1.size ≤ w1.1.size by omega)))
  clear hb2 p0 p1
  go_wp2_with fail
  go_ret
  exact ⟨rfl, HB2.out⟩
 ·have hne : ((chkA a) == 0) = false := by rw [beq_eq_false_iff_ne]; exact hck
  have hne2 : ((chkA a) != 0) = true := by rw [bne_iff_ne]; exact hck
  have hne3 : decide (chkA a = 0) = false := decide_eq_false hck
  clear hck hno
  go_wp2_with fail
  refine HCK.out.mono ?_
  rintro e w1 ⟨rfl, hb1⟩
  have HB1 := dh (HB0.out.trans (hb1.mono hq0))
  clear hb1 q0 q1 q2
  go_wp2_with fail
  go_ret
  exact ⟨rfl, HB1.out⟩
theorem takesR_any (a : Aut) (Ai : Option Addr) (ni ci : Nat) (An : Option Addr) (nn cn : Nat) (A1 A2 : Option Addr) (n1 c1 n2 c2 : Nat) (st lo : List Int) (w : World) (B : Nat) (h : AutRd w B a Ai ni ci An nn cn) (hw : WRd w B A1 A2 n1 c1 n2 c2 st lo) (hB : B ≤ w.1.size) (hl : n1 + n2 ≤ 2000) (hNE : nn * (n1 + n2) ≤ 65536)
  (h1 : ∀ n ∈ st, 0 ≤ n ∧ n < 18446744073709551616) (h2 : ∀ n ∈ lo, 0 ≤ n ∧ n < 18446744073709551616) (hnd : ∀ x ∈ a.nodes, x.need < 2 ^ 64 ∧ x.ban < 2 ^ 64) (KB : Nat) (hr : ∀ x ∈ a.nodes, x.to.length ≤ KB) (hri : a.init.length ≤ KB) (hKB : nn * (n1 + n2) * KB ≤ 1000000000) (hKB2 : KB ≤ 1000000000) :
  Calls Tryd.prog 20 #[.agg #[.int .i64 a.sets, .slice Ai ni ci, .slice An nn cn], .agg #[.slice A1 n1 c1, .slice A2 n2 c2]] w (Tru w (decide (chkA a = 0) && decide (0 < n2) && accB a (wordA st lo) n1)) := by
 by_cases hck : chkA a = 0
 ·by_cases hn2 : 0 < n2
  ·have hWl : n1 + n2 = (wordA st lo).length := by rw [wordA_len, ← hw.l1, ← hw.l2]
   refine (takes30L_any a Ai ni ci An nn cn A1 A2 n1 c1 n2 c2 st lo (wordA st lo) w B h hw hB hck hn2 hl hNE hWl (wordA_atW h1 h2) (wordA_lt h1 h2) hnd KB hr hri hKB hKB2).mono ?_
   rintro e w' ⟨z, hz, ht⟩
   rw [takesB_acc (chkA_of hck).2.2.2 (by omega) hz] at ht
   rw [decide_eq_true hck, decide_eq_true hn2, Bool.and_self, Bool.true_and]
   exact ht
  ·rw [decide_eq_false hn2, Bool.and_false, Bool.false_and]
   exact takesN_any a Ai ni ci An nn cn A1 A2 n1 c1 n2 c2 st lo w B h hw hB (by omega) (fun h => hn2 h.2)
 ·rw [decide_eq_false hck, Bool.false_and, Bool.false_and]
  exact takesN_any a Ai ni ci An nn cn A1 A2 n1 c1 n2 c2 st lo w B h hw hB (by omega) (fun h => hck h.1)
end Go.Proofs.YtiebpncpdbnelaaDoor
namespace Go.Proofs.YtiebpncpdbnelaaDoor
open Go.RowKit Go.Maps
theorem lawI28 : Keyed Tryd.prog 3 := int_keyed Tryd.underlying3
theorem keyI28 {x : Int} (h : -9223372036854775808 ≤ x ∧ x ≤ 9223372036854775807) : keyOf Tryd.prog 3 (.int .i64 x) = some (.int .i64 x) :=
 keyOf_int_mk Tryd.underlying3 (by rw [Lit.wf, show IntKind.i64.min = -9223372036854775808 from rfl, show IntKind.i64.max = 9223372036854775807 from rfl]; simp; omega)
def IMap (w : World) (mb : Nat) (L : List Int) : Prop :=
 ∃ D : DataW Unit, w.ownsMap Tryd.prog 3 (plainElem Tryd.prog 4) mb L.length D ∧ IsMap D ∧ ∀ x : Int, D.atKey (.int .i64 x) (.lit (.bool false)) = .lit (.bool (decide (x ∈ L)))
theorem IMap.lt {w : World} {mb : Nat} {L : List Int} (h : IMap w mb L) : mb < w.1.size := by obtain ⟨D, hD, _⟩ := h; exact hD.lt
theorem IMap.keep {S : Nat → Prop} {w w' : World} {mb : Nat} {L : List Int} (h : IMap w mb L) (ht : Tch S w w') (hS : ¬ S mb) : IMap w' mb L := by
 obtain ⟨D, ⟨es, clock, hb, F, hs, hD⟩, h2, h3⟩ := h
 exact ⟨D, ⟨es, clock, ht.blk hb hS, F, hs, hD⟩, h2, h3⟩
theorem IMap.of_blk {w : World} {mb : Nat} (h : w.1[mb]? = some (.map #[] 0)) : IMap w mb [] :=
 ⟨.map [], ⟨#[], 0, h, ⟨by simp, MapKept.stamped_empty 0, by simp⟩, lR, rfl⟩, isMap_empty, fun x => rfl⟩
theorem IMap.lookup {w : World} {mb : Nat} {L : List Int} (h : IMap w mb L) {x : Int} (hx : -9223372036854775808 ≤ x ∧ x ≤ 9223372036854775807) :
  (Instr.lookup 55 (.map (some mb)) (.int .i64 x) false).run Tryd.prog w = .ok (.bool (decide (x ∈ L))) w := by
 obtain ⟨D, h1, _, h3⟩ := h
 have hz : (zeroValue 4).run Tryd.prog w = .ok (.bool false) w := by kernel_rfl
 obtain ⟨v, ps, hr, hv⟩ := h1.lookup lawI28 Tryd.underlying55 hz (plainElem_bool Tryd.underlying4 false) (keyI28 hx)
 rw [h3 x] at hv
 have e : v = .bool (decide (x ∈ L)) := plainElem_bool_inv Tryd.underlying4 hv
 rw [← e]; exact hr
theorem IMap.update {w : World} {mb : Nat} {L : List Int} (h : IMap w mb L) {x : Int} (hx : -9223372036854775808 ≤ x ∧ x ≤ 9223372036854775807) (hl : L.length ≤ 1000000) :
  ∃ w', (Instr.mapUpdate 55 (.map (some mb)) (.int .i64 x) (.bool true)).run Tryd.prog w = .ok () w' ∧ IMap w' mb (L ++ [x]) ∧ w.grownBy w' (some mb) := by
 obtain ⟨D, h1, h2, h3⟩ := h
 obtain ⟨w', hr, ho, hg⟩ := h1.update lawI28 Tryd.underlying55 (by unfold maxLen; omega) (keyI28 hx) (plainElem_bool Tryd.underlying4 true)
 refine ⟨w', hr, ⟨_, by rw [lA]; exact ho, h2.put _ _, fun y => ?_⟩, hg⟩
 by_cases e : y = x
 ·subst e
  rw [atKey_put_same h2 (lawI28.key (keyI28 hx))]
  simp
 ·rw [atKey_put_other (by simp; exact e), h3 y]
  simp [e]
end Go.Proofs.YtiebpncpdbnelaaDoor
namespace Go.Proofs.YtiebpncpdbnelaaDoor
theorem own : ownKnob Tryd.prog.godebug = none := by kernel_rfl
theorem laidOut : laidOutB Tryd.prog = true := by kernel_rfl
theorem bd_u64 {x : Int} (h : (Lit.int .u64 x).wf = true) : 0 ≤ x ∧ x ≤ 18446744073709551615 := by
 simp [Lit.wf, IntKind.min, IntKind.max, IntKind.signed, IntKind.bits] at h
 omega
end Go.Proofs.YtiebpncpdbnelaaDoor
