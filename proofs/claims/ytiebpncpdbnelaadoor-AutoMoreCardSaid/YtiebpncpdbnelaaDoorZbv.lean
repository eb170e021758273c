/- Texts that stand one behind the other, in one file. -/
import Derived.Test.YtiebpncpdbnelaaDoorAu18
import Derived.Test.YtiebpncpdbnelaaDoorAt6
set_option maxHeartbeats 8000000
set_option maxRecDepth 100000
namespace Go.Proofs.YtiebpncpdbnelaaDoor
def awA : Aut := ⟨1, [0], [⟨1, 0, 1, [0]⟩]⟩
def awB : Aut := ⟨1, [0, 1], [⟨1, 0, 0, [0]⟩, ⟨0, 0, 1, [1]⟩]⟩
theorem awA_ok : awA.Ok := ⟨by decide, by decide⟩
theorem awA_chk : chkA awA = 0 := by decide
theorem awB_chk : chkA awB = 0 := by decide
theorem awA_openE : openE awA = [[⟨0, 0⟩]] := by decide
theorem awB_openE : openE awB = [[⟨0, 0⟩], [⟨1, 0⟩]] := by decide
theorem plc_lt1 (k : Nat) : plc 0 1 k = 0 := by
 have := plc_lt (lp := 0) (L := 1) (by decide) k
 omega
theorem aw_acc1 : accB awA [1] 0 = true := by
 rw [accB_iff]
 refine ⟨fun _ => 0, by decide, fun _ => by decide, fun k => ?_, fun _ => by decide, fun i hi k => ⟨k, lR, ?_⟩⟩
 ·show rdsB (awA.at 0) ([1].getD (plc 0 1 k) 0) = true
  rw [plc_lt1]; decide
 ·have h : i = 0 := by
   have h1 : awA.sets.toNat = 1 := rfl
   omega
  rw [h]; decide
theorem aw_acc2 : accB awA [1, 0] 0 = false := by
 rw [Bool.eq_false_iff]
 intro h
 obtain ⟨r, h0, hr⟩ := accB_iff.1 h
 have h1 := hr.rds 1
 have h2 := hr.lt 1
 have h3 : r 1 = 0 := by
  have : awA.nodes.length = 1 := rfl
  omega
 rw [h3] at h1
 revert h1
 decide
theorem run_self {E : List (List Nd)} {asks : List (Nat → Bool)} {q : Nat} (ha : Arc E q q) (h : ∀ p ∈ asks, p q = true) : Runs E asks q :=
 ⟨fun _ => q, rfl, fun _ => ha, fun p hp k => ⟨k, lR, h p hp⟩⟩
theorem awA_use : UseP awA 0 := by
 refine ⟨.start (by decide) (by decide), run_self ?_ ?_⟩
 ·rw [awA_openE]; exact ⟨by decide, by decide, by decide⟩
 ·intro p hp
  have h : asksI (insA awA) awA.sets.toNat = [fun _ => true, fun m => ((insA awA).getD m 0).testBit 0] := rfl
  rw [h] at hp
  simp only [List.mem_cons, List.not_mem_nil, or_false] at hp
  rcases hp with rfl | rfl <;> decide
theorem awA_init : (trimF awA).init ≠ [] := by
 unfold trimF
 rw [if_pos awA_chk]
 exact (trim_first awA_ok).2 ⟨0, by decide, awA_use.2⟩
theorem awB_use : [false, true] = useL awB := by
 refine use_uniq rfl (fun q hq => ?_)
 have hq : q < 2 := hq
 have e2 : asksI (insA awB) awB.sets.toNat = [fun _ => true, fun m => ((insA awB).getD m 0).testBit 0] := rfl
 rcases Nat.lt_or_ge q 1 with h | h
 ·have h : q = 0 := by omega
  subst h
  refine ⟨(fun h => by cases h), fun ⟨_, r, h0, h1, h2⟩ => ?_⟩
  rw [e2] at h2
  have key : ∀ k, r k = 0 := by
   intro k
   induction k with
   | zero => exact h0
   | succ k ih =>
    have ha := h1 k
    rw [ih, awB_openE] at ha
    have := ha.2.2
    simp [tgts] at this
    exact this
  obtain ⟨m, _, hm⟩ := h2 _ (List.mem_cons_of_mem _ (List.mem_cons_self ..)) 0
  rw [key m] at hm
  revert hm
  decide
 ·have h : q = 1 := by omega
  subst h
  refine ⟨fun _ => ⟨.start (by decide) (by decide), run_self ?_ ?_⟩, fun _ => rfl⟩
  ·rw [awB_openE]; exact ⟨by decide, by decide, by decide⟩
  ·intro p hp
   rw [e2] at hp
   simp only [List.mem_cons, List.not_mem_nil, or_false] at hp
   rcases hp with rfl | rfl <;> decide
theorem awB_trim : trimF awB = ⟨1, [0], [⟨0, 0, 1, [0]⟩]⟩ := by
 unfold trimF
 rw [if_pos awB_chk]
 unfold trimA
 rw [← awB_use]
 rfl
theorem awB_init : (trimF awB).init ≠ [] := by rw [awB_trim]; exact fun h => by cases h
theorem awZ_init : (trimF Aut.zero).init = [] := by
 unfold trimF
 rw [if_pos (by decide)]
 rfl
theorem awC_chk : chkA ⟨0, [0], []⟩ = 10 := by decide
theorem aw_ne : awA ≠ awB := fun h => by have := congrArg Aut.init h; cases this
end Go.Proofs.YtiebpncpdbnelaaDoor
namespace Go.Proofs.YtiebpncpdbnelaaDoor
open Go.RowKit
def wordA (st lo : List Int) : List Nat := (st ++ lo).map Int.toNat
theorem wordA_len (st lo : List Int) : (wordA st lo).length = st.length + lo.length := by simp [wordA]
theorem wordA_at {st lo : List Int} {k : Nat} (hk : k < st.length + lo.length) : (wordA st lo).getD k 0 = (seqW st lo k).toNat := by
 have e : (wordA st lo).getD k 0 = ((st ++ lo).getD k 0).toNat := by
  unfold wordA
  rw [gD, gD, List.getElem?_map, gE (by rw [lA]; exact hk)]; rfl
 rw [e, seqW]
 by_cases h : k < st.length
 ·rw [if_pos h, gD, gC h, gD]
 ·rw [if_neg h, Nat.mod_eq_of_lt (by omega)]
  simp only [List.getD, gR (Nat.le_of_not_lt h)]
theorem u64_bd {l : List Int} (hl : ∀ n ∈ l, 0 ≤ n ∧ n < 18446744073709551616) (i : Nat) : 0 ≤ l.getD i 0 ∧ l.getD i 0 < 18446744073709551616 := by
 rw [gD]
 rcases Nat.lt_or_ge i l.length with hi | hi
 ·rw [gE hi]; exact hl _ (mM hi)
 ·rw [List.getElem?_eq_none hi]; simp
theorem seq_bdA {st lo : List Int} (h1 : ∀ n ∈ st, 0 ≤ n ∧ n < 18446744073709551616) (h2 : ∀ n ∈ lo, 0 ≤ n ∧ n < 18446744073709551616) (k : Nat) : 0 ≤ seqW st lo k ∧ seqW st lo k < 18446744073709551616 := by
 rw [seqW]
 split
 ·exact u64_bd h1 _
 ·exact u64_bd h2 _
theorem wordA_lt {st lo : List Int} (h1 : ∀ n ∈ st, 0 ≤ n ∧ n < 18446744073709551616) (h2 : ∀ n ∈ lo, 0 ≤ n ∧ n < 18446744073709551616) (k : Nat) : (wordA st lo).getD k 0 < 2 ^ 64 := by
 rcases Nat.lt_or_ge k (st.length + lo.length) with hk | hk
 ·rw [wordA_at hk]
  have := seq_bdA h1 h2 k
  omega
 ·rw [gD, List.getElem?_eq_none (by rw [wordA_len]; exact hk)]; decide
theorem wordA_atW {st lo : List Int} (h1 : ∀ n ∈ st, 0 ≤ n ∧ n < 18446744073709551616) (h2 : ∀ n ∈ lo, 0 ≤ n ∧ n < 18446744073709551616) (k : Nat) (hk : k < (wordA st lo).length) : atW st lo (k : Int) = (((wordA st lo).getD k 0 : Nat) : Int) := by
 rw [wordA_len] at hk
 rw [atW, if_neg (by omega), tN, wordA_at hk]
 have := seq_bdA h1 h2 k
 omega
theorem wordA_nat (st lo : List Nat) : wordA (natI st) (natI lo) = st ++ lo := by
 unfold wordA natI
 rw [← List.map_append, List.map_map]
 have : (Int.toNat ∘ fun i : Nat => (i : Int)) = id := by funext x; simp
 rw [this, List.map_id]
theorem natI_bd {l : List Nat} (h : ∀ x ∈ l, x < 2 ^ 64) : ∀ n ∈ natI l, 0 ≤ n ∧ n < 18446744073709551616 := by
 intro n hn
 obtain ⟨x, hx, rfl⟩ := List.mem_map.1 hn
 have := h x hx
 omega
theorem takesB_acc {a : Aut} {W : List Nat} {lp : Nat} (hA : a.Ok) (hlp : lp < W.length) {z : List Bool} (hz : Gfp (prodE a W lp) (asksA a W.length) z) : takesB a W z = accB a W lp := by
 rw [Bool.eq_iff_iff, takesB_iff hA, takes_acc hA hlp hz, accB_iff]
end Go.Proofs.YtiebpncpdbnelaaDoor
namespace Go.Proofs.YtiebpncpdbnelaaDoor
open Go.RowKit
theorem sl_blkA {w : World} {b T n size : Nat} {cs : Array Value} {xs : List Value} {B : Nat} (h : w.1[b]? = some (.cells cs T (0, 0))) (hx : cs.toList = xs) (hn : xs.length = n * size) (hm : n ≤ maxLen) (hb : b < B) : Sl w B size (some ⟨b, 0, none⟩) n n xs := by
 refine ⟨hn, lR, hm, fun h => (by cases h), .inr ⟨b, 0, rfl, hb, fun j u hu => ?_⟩⟩
 rw [Nat.zero_add, cell_of_row w b j _ _ _ h]
 rw [← hx] at hu
 simpa using hu
theorem als (l : List Obj) : ∀ w : World, Below w.1.size w (l.foldl World.alloc w) ∧ (l.foldl World.alloc w).1.size = w.1.size + l.length ∧ ∀ i o, l[i]? = some o → (l.foldl World.alloc w).1[w.1.size + i]? = some o := by
 induction l with
 | nil => exact fun w => ⟨bR, rfl, fun i o h => by cases h⟩
 | cons x l ih =>
  intro w
  obtain ⟨h1, h2, h3⟩ := ih (w.alloc x)
  have hs : (w.alloc x).1.size = w.1.size + 1 := by simp
  rw [hs] at h1 h2 h3
  refine ⟨(bR.alloc lR _).trans (h1.mono (Nat.le_succ _)), by rw [List.foldl_cons, h2, List.length_cons]; omega, fun i o h => ?_⟩
  rw [List.foldl_cons]
  cases i with
  | zero =>
   rw [Nat.add_zero, h1.block _ (Nat.lt_succ_self _), heap_alloc_new w x]
   exact h
  | succ i =>
   rw [show w.1.size + (i + 1) = w.1.size + 1 + i by omega]
   exact h3 i o h
theorem awA_rd {W : World} {q0 q1 q2 B : Nat} (h0 : W.1[q0]? = some (.cells #[.int .i64 0] 3 (0, 0))) (h1 : W.1[q1]? = some (.cells #[.int .i64 0] 3 (0, 0))) (h2 : W.1[q2]? = some (.cells #[.int .u64 1, .int .u64 0, .int .u64 1, .slice (some ⟨q1, 0, none⟩) 1 1] 43 (0, 0))) (hB : q0 < B ∧ q1 < B ∧ q2 < B) :
  AutRd W B awA (some ⟨q0, 0, none⟩) 1 1 (some ⟨q2, 0, none⟩) 1 1 := by
 refine ⟨rfl, rfl, sl_blkA h0 rfl rfl (by decide) hB.1, _, sl_blkA (n := 1) (size := 4) h2 rfl rfl (by decide) hB.2.2, fun k x hk => ?_⟩
 have hkl : k < 1 := (gB.1 hk).1
 have hk0 : k = 0 := by omega
 subst hk0
 cases hk
 exact ⟨some ⟨q1, 0, none⟩, 1, rfl, rfl, rfl, rfl, sl_blkA h1 rfl rfl (by decide) hB.2.1⟩
theorem awB_rd {W : World} {q0 q1 q2 q3 B : Nat} (h0 : W.1[q0]? = some (.cells #[.int .i64 0, .int .i64 1] 3 (0, 0))) (h1 : W.1[q1]? = some (.cells #[.int .i64 0] 3 (0, 0))) (h2 : W.1[q2]? = some (.cells #[.int .i64 1] 3 (0, 0)))
  (h3 : W.1[q3]? = some (.cells #[.int .u64 1, .int .u64 0, .int .u64 0, .slice (some ⟨q1, 0, none⟩) 1 1, .int .u64 0, .int .u64 0, .int .u64 1, .slice (some ⟨q2, 0, none⟩) 1 1] 43 (0, 0))) (hB : q0 < B ∧ q1 < B ∧ q2 < B ∧ q3 < B) :
  AutRd W B awB (some ⟨q0, 0, none⟩) 2 2 (some ⟨q3, 0, none⟩) 2 2 := by
 refine ⟨rfl, rfl, sl_blkA h0 rfl rfl (by decide) hB.1, _, sl_blkA (n := 2) (size := 4) h3 rfl rfl (by decide) hB.2.2.2, fun k x hk => ?_⟩
 have hkl : k < 2 := (gB.1 hk).1
 rcases Nat.lt_or_ge k 1 with e | e
 ·have hk0 : k = 0 := by omega
  subst hk0
  cases hk
  exact ⟨some ⟨q1, 0, none⟩, 1, rfl, rfl, rfl, rfl, sl_blkA h1 rfl rfl (by decide) hB.2.1⟩
 ·have hk0 : k = 1 := by omega
  subst hk0
  cases hk
  exact ⟨some ⟨q2, 0, none⟩, 1, rfl, rfl, rfl, rfl, sl_blkA h2 rfl rfl (by decide) hB.2.2.1⟩
theorem awake30_any (w : World) (hT : TabAt 0 Lib.deBruijn64tab w) (hg : 0 < w.1.size) : Calls Tryd.prog 25 #[] w (Tru w true) := by
 have HG := dh hg
 have HTB := dh hT
 clear hg hT
 go_enter Tryd.func25, Tryd.ntmps25
 go_upto_region 3 with fail
 obtain ⟨W9, hW9⟩ := xR (([.cells #[.int .i64 0] 3, .cells #[.int .i64 0] 3, .cells #[.int .u64 1, .int .u64 0, .int .u64 1, .slice (some ⟨w.1.size + 1, 0, none⟩) 1 1] 43, .cells #[.int .i64 1, .slice (some ⟨w.1.size, 0, none⟩) 1 1, .slice (some ⟨w.1.size + 1 + 1, 0, none⟩) 1 1] 25, .cells #[.int .i64 0, .int .i64 1] 3, .cells #[.int .i64 0] 3, .cells #[.int .i64 1] 3, .cells #[.int .u64 1, .int .u64 0, .int .u64 0, .slice (some ⟨w.1.size + 1 + 1 + 1 + 1 + 1, 0, none⟩) 1 1, .int .u64 0, .int .u64 0, .int .u64 1, .slice (some ⟨w.1.size + 1 + 1 + 1 + 1 + 1 + 1, 0, none⟩) 1 1] 43, .cells #[.int .i64 1, .slice (some ⟨w.1.size + 1 + 1 + 1 + 1, 0, none⟩) 2 2, .slice (some ⟨w.1.size + 1 + 1 + 1 + 1 + 1 + 1 + 1, 0, none⟩) 2 2] 25] : List Obj).foldl World.alloc w)
 obtain ⟨hb9, hz9, hl9⟩ := als ([.cells #[.int .i64 0] 3, .cells #[.int .i64 0] 3, .cells #[.int .u64 1, .int .u64 0, .int .u64 1, .slice (some ⟨w.1.size + 1, 0, none⟩) 1 1] 43, .cells #[.int .i64 1, .slice (some ⟨w.1.size, 0, none⟩) 1 1, .slice (some ⟨w.1.size + 1 + 1, 0, none⟩) 1 1] 25, .cells #[.int .i64 0, .int .i64 1] 3, .cells #[.int .i64 0] 3, .cells #[.int .i64 1] 3, .cells #[.int .u64 1, .int .u64 0, .int .u64 0, .slice (some ⟨w.1.size + 1 + 1 + 1 + 1 + 1, 0, none⟩) 1 1, .int .u64 0, .int .u64 0, .int .u64 1, .slice (some ⟨w.1.size + 1 + 1 + 1 + 1 + 1 + 1, 0, none⟩) 1 1] 43, .cells #[.int .i64 1, .slice (some ⟨w.1.size + 1 + 1 + 1 + 1, 0, none⟩) 2 2, .slice (some ⟨w.1.size + 1 + 1 + 1 + 1 + 1 + 1 + 1, 0, none⟩) 2 2] 25] : List Obj) w
 rw [← hW9] at hb9 hz9 hl9
 show Code.wp _ _ _ _ (([.cells #[.int .i64 0] 3, .cells #[.int .i64 0] 3, .cells #[.int .u64 1, .int .u64 0, .int .u64 1, .slice (some ⟨w.1.size + 1, 0, none⟩) 1 1] 43, .cells #[.int .i64 1, .slice (some ⟨w.1.size, 0, none⟩) 1 1, .slice (some ⟨w.1.size + 1 + 1, 0, none⟩) 1 1] 25, .cells #[.int .i64 0, .int .i64 1] 3, .cells #[.int .i64 0] 3, .cells #[.int .i64 1] 3, .cells #[.int .u64 1, .int .u64 0, .int .u64 0, .slice (some ⟨w.1.size + 1 + 1 + 1 + 1 + 1, 0, none⟩) 1 1, .int .u64 0, .int .u64 0, .int .u64 1, .slice (some ⟨w.1.size + 1 + 1 + 1 + 1 + 1 + 1, 0, none⟩) 1 1] 43, .cells #[.int .i64 1, .slice (some ⟨w.1.size + 1 + 1 + 1 + 1, 0, none⟩) 2 2, .slice (some ⟨w.1.size + 1 + 1 + 1 + 1 + 1 + 1 + 1, 0, none⟩) 2 2] 25] : List Obj).foldl World.alloc w)
 rw [← hW9]
 clear hW9
 have k0 := hl9 0 _ rfl
 have k1 := hl9 1 _ rfl
 have k2 := hl9 2 _ rfl
 have k3 := hl9 3 _ rfl
 have k4 := hl9 4 _ rfl
 have k5 := hl9 5 _ rfl
 have k6 := hl9 6 _ rfl
 have k7 := hl9 7 _ rfl
 have k8 := hl9 8 _ rfl
 clear hl9
 simp only [List.length_cons, List.length_nil] at hz9
 have hq : w.1.size + 8 < W9.1.size := by omega
 have HB9 := dh hb9
 clear hz9 hb9
 generalize hq8 : w.1.size + 1 + 1 + 1 + 1 + 1 + 1 + 1 + 1 = q8 at *
 generalize hq7 : w.1.size + 1 + 1 + 1 + 1 + 1 + 1 + 1 = q7 at *
 generalize hq6 : w.1.size + 1 + 1 + 1 + 1 + 1 + 1 = q6 at *
 generalize hq5 : w.1.size + 1 + 1 + 1 + 1 + 1 = q5 at *
 generalize hq4 : w.1.size + 1 + 1 + 1 + 1 = q4 at *
 generalize hq3 : w.1.size + 1 + 1 + 1 = q3 at *
 generalize hq2 : w.1.size + 1 + 1 = q2 at *
 generalize hq1 : w.1.size + 1 = q1 at *
 simp only [Nat.add_zero] at k0
 generalize hq0 : w.1.size = q0 at *
 have hl : q0 < W9.1.size ∧ q1 < W9.1.size ∧ q2 < W9.1.size ∧ q3 < W9.1.size ∧ q4 < W9.1.size ∧ q5 < W9.1.size ∧ q6 < W9.1.size ∧ q7 < W9.1.size := by refine ⟨?_, ?_, ?_, ?_, ?_, ?_, ?_, ?_⟩ <;> omega
 obtain ⟨l0, l1, l2, l3, l4, l5, l6, l7⟩ := hl
 have hqw : w.1.size ≤ W9.1.size := by omega
 have HQ0 := dh hq0
 have HA := dh (awA_rd (W := W9) (B := W9.1.size) k0 k1 k2 ⟨l0, l1, l2⟩)
 have HB := dh (awB_rd (W := W9) (B := W9.1.size) k4 k5 k6 k7 ⟨l4, l5, l6, l7⟩)
 have HC : Hid (∀ W, Below W9.1.size W9 W → (W.cell? ⟨q3, 0, none⟩ = some (.int .i64 1) ∧ W.cell? ⟨q3, 1, none⟩ = some (.slice (some ⟨q0, 0, none⟩) 1 1) ∧ W.cell? ⟨q3, 2, none⟩ = some (.slice (some ⟨q2, 0, none⟩) 1 1)) ∧ (W.cell? ⟨q8, 0, none⟩ = some (.int .i64 1) ∧ W.cell? ⟨q8, 1, none⟩ = some (.slice (some ⟨q4, 0, none⟩) 2 2) ∧ W.cell? ⟨q8, 2, none⟩ = some (.slice (some ⟨q7, 0, none⟩) 2 2))) := dh (fun W hb => by
  have h3 := (hb.block q3 l3).trans k3
  have h8 := (hb.block q8 hq).trans k8
  refine ⟨⟨?_, ?_, ?_⟩, ?_, ?_, ?_⟩ <;> first | (rw [cell_of_row _ _ _ _ _ (0, 0) h3]; rfl) | (rw [cell_of_row _ _ _ _ _ (0, 0) h8]; rfl))
 have HTAB : Hid (∀ W, Below W9.1.size W9 W → TabAt 0 Lib.deBruijn64tab W ∧ 0 < W.1.size) := dh (fun W hb => by
  have h1 := HQ0.out
  have h2 : Below w.1.size w W := by rw [h1]; exact HB9.out.trans (hb.mono (by omega))
  exact ⟨fun x hx => bC h2 (by rw [h1]; exact HG.out) (HTB.out x hx), Nat.lt_of_lt_of_le (by rw [h1]; exact HG.out) h2.size⟩)
 clear k0 k1 k2 k3 k4 k5 k6 k7 k8 hq0 hq1 hq2 hq3 hq4 hq5 hq6 hq7 hq8 HG HTB
 obtain ⟨⟨a0, a1, a2⟩, b0, b1, b2⟩ := HC.out W9 bR
 obtain ⟨t1, t2⟩ := HTAB.out W9 bR
 have htr := trimP_any awB (some ⟨q4, 0, none⟩) 2 2 (some ⟨q7, 0, none⟩) 2 2 W9 W9.1.size HB.out lR t1 t2 (by decide) (by decide) 1 (by decide) (by decide) (by decide)
 rw [awB_trim] at htr
 have HTR := dh htr
 clear htr t1 t2 a0 a1 a2
 go_wp2_with fail
 refine HTR.out.mono ?_
 rintro e w10 ⟨Ti, ti, ei, Tn, tn, en, rfl, hrt, hb10⟩
 have eti : ti = 1 := hrt.eni
 have etn : tn = 1 := hrt.enn
 subst eti
 subst etn
 have HRT := dh hrt
 clear hrt HTR b0 b1 b2
 obtain ⟨W11, hW11⟩ := xQ (w10.alloc (.cells #[.int .i64 1, .slice Ti 1 ei, .slice Tn 1 en] 25))
 have hb11' : Below w10.1.size w10 W11 := by rw [← hW11]; exact bR.alloc lR _
 have k11 : W11.1[w10.1.size]? = some (.cells #[.int .i64 1, .slice Ti 1 ei, .slice Tn 1 en] 25 (0, 0)) := by rw [← hW11]; exact heap_alloc_new w10 _
 have hz11 : W11.1.size = w10.1.size + 1 := by rw [← hW11]; simp
 have hb11 := hb10.trans (hb11'.mono hb10.size)
 have l9 : w10.1.size < W11.1.size := by omega
 have hs10 := hb10.size
 have HW11 := dh hW11
 have HB11 := dh hb11
 have K11 := dh k11
 clear hW11 hb11 hb11' k11 hz11 hb10
 obtain ⟨⟨a0, a1, a2⟩, b0, b1, b2⟩ := HC.out W11 HB11.out
 obtain ⟨t1, t2⟩ := HTAB.out W11 HB11.out
 have HWI := dh ((callsIn_wide (n := 8)).1 (witness_in 8 lR awA (some ⟨q0, 0, none⟩) 1 1 (some ⟨q2, 0, none⟩) 1 1 W11 W9.1.size (HA.out.below HB11.out lR) HB11.out.size t1 t2 (by decide) (by decide) 1 (by decide) (by decide) (by decide)))
 clear t1 t2 b0 b1 b2
 go_upto_region 4 with fail
 show Code.wp _ _ _ _ (w10.alloc (.cells #[.int .i64 1, .slice Ti 1 ei, .slice Tn 1 en] 25))
 rw [HW11.out]
 go_wp2_with fail
 refine HWI.out.mono ?_
 rintro e w12 ⟨A1, n1, c1, A2, n2, c2, st, lo, ok, rfl, hwr, hb12, hok1, hok0⟩
 cases ok
 ·exact absurd (hok0 rfl).1 awA_init
 have hwi := hok1 rfl
 clear hok1 hok0
 have hst0 : st = [] := by
  have h1 := hwi.2.2.2.1
  have h2 : awA.nodes.length = 1 := rfl
  exact List.eq_nil_of_length_eq_zero (by omega)
 obtain ⟨x, hlo⟩ : ∃ x, lo = [x] := by
  have h1 := hwi.2.2.2.2.1
  have h2 : awA.nodes.length = 1 := rfl
  have h3 := hwi.2.2.1
  match lo, h3, h1 with
  | [x], _, _ => exact ⟨x, rfl⟩
  | _ :: _ :: _, _, h => simp [h2] at h
 subst hst0
 subst hlo
 have en1 : n1 = 0 := hwr.l1
 have en2 : n2 = 1 := hwr.l2
 subst en1
 subst en2
 have HWI' := dh hwi
 have HWR := dh hwr
 clear hwi hwr HWI
 obtain ⟨w13, hW13⟩ := xQ (w12.alloc (.cells #[.slice A1 0 c1, .slice A2 1 c2] 29))
 have hb13' : Below w12.1.size w12 w13 := by rw [← hW13]; exact bR.alloc lR _
 have k13 : w13.1[w12.1.size]? = some (.cells #[.slice A1 0 c1, .slice A2 1 c2] 29 (0, 0)) := by rw [← hW13]; exact heap_alloc_new w12 _
 have l13 : w12.1.size < w13.1.size := by rw [← hW13]; simp
 have hb12w := HB11.out.trans (hb12.mono HB11.out.size)
 have HB12 := dh hb12w
 have HB13 := dh (hb12w.trans (hb13'.mono hb12w.size))
 have HW13 := dh hW13
 have HKP : Hid (∀ W, Below w13.1.size w13 W → W.cell? ⟨w12.1.size, 0, none⟩ = some (.slice A1 0 c1) ∧ W.cell? ⟨w12.1.size, 1, none⟩ = some (.slice A2 1 c2) ∧ WRd W w12.1.size A1 A2 0 c1 1 c2 (natI []) (natI [x])) := dh (fun W hb => by
  have h := (hb.block w12.1.size l13).trans k13
  refine ⟨?_, ?_, HWR.out.below (hb13'.trans (hb.mono (Nat.le_of_lt l13))) lR⟩ <;> (rw [cell_of_row _ _ _ _ _ (0, 0) h]; rfl))
 have HKT : Hid (∀ W, Below w13.1.size w13 W → W.cell? ⟨w10.1.size, 1, none⟩ = some (.slice Ti 1 ei) ∧ W.cell? ⟨w10.1.size, 2, none⟩ = some (.slice Tn 1 en)) := dh (fun W hb => by
  have h := ((hb12.trans ((hb13'.trans (hb.mono (Nat.le_of_lt l13))).mono hb12.size)).block w10.1.size l9).trans K11.out
  refine ⟨?_, ?_⟩ <;> (rw [cell_of_row _ _ _ _ _ (0, 0) h]; rfl))
 have H13_13 := dh (Below.refl w13.1.size w13)
 clear hW13 hb13' k13 hb12w hb12 a0 a1 a2
 go_upto_region 5 with fail
 show Code.wp _ _ _ _ (w12.alloc (.cells #[.slice A1 0 c1, .slice A2 1 c2] 29))
 rw [HW13.out]
 obtain ⟨⟨a0, a1, a2⟩, b0, b1, b2⟩ := HC.out w13 HB13.out
 obtain ⟨V13, hV⟩ := xQ (w13.alloc (.cells #[.int .u64 1] 41))
 have hbV : Below w13.1.size w13 V13 := by rw [← hV]; exact bR.alloc lR _
 have kV : V13.1[w13.1.size]? = some (.cells #[.int .u64 1] 41 (0, 0)) := by rw [← hV]; exact heap_alloc_new w13 _
 have lV : w13.1.size < V13.1.size := by rw [← hV]; simp
 have HBV13 := dh (HB13.out.trans (hbV.mono HB13.out.size))
 have HV13 := dh hV
 have H13V_13 := dh (H13_13.out.trans (hbV.mono H13_13.out.size))
 clear hV hbV
 obtain ⟨t1, t2⟩ := HTAB.out V13 HBV13.out
 have hct := takesP_any awA (some ⟨q0, 0, none⟩) 1 1 (some ⟨q2, 0, none⟩) 1 1 none (some ⟨w13.1.size, 0, none⟩) 0 0 1 1 [] [1] [1] V13 V13.1.size ((HA.out.below HBV13.out lR).up HBV13.out.size) ⟨Sl.none_ _ _ _, sl_blkA (n := 1) (size := 1) (xs := ucells [1]) kV rfl rfl (by decide) lV, rfl, rfl⟩ lR (by decide) (by decide) 1 (by decide) (by decide) (by decide) rfl (fun _ k hk => wordA_atW (st := []) (lo := [1]) (by decide) (by decide) k hk) (fun k => wordA_lt (st := []) (lo := [1]) (by decide) (by decide) k) (by decide) (by decide) (by decide)
 rw [awA_chk, aw_acc1, show (decide ((0 : Int) = 0) && decide (0 < 1) && true) = true from rfl] at hct
 have HCT := dh hct
 clear hct t1 t2 kV
 go_wp2_with fail
 show Calls _ _ _ (w13.alloc (.cells #[.int .u64 1] 41)) _
 rw [HV13.out]
 refine HCT.out.mono ?_
 rintro e w14 ⟨rfl, hb⟩
 have HB14 := dh (HBV13.out.trans (hb.mono HBV13.out.size))
 have H13_14 := dh (H13V_13.out.trans (hb.mono H13V_13.out.size))
 clear hb HCT a0 a1 a2 b0 b1 b2
 obtain ⟨⟨a0, a1, a2⟩, b0, b1, b2⟩ := HC.out w14 HB14.out
 obtain ⟨V14, hV⟩ := xQ (w14.alloc (.cells #[.int .u64 1, .int .u64 0] 41))
 have hbV : Below w14.1.size w14 V14 := by rw [← hV]; exact bR.alloc lR _
 have kV : V14.1[w14.1.size]? = some (.cells #[.int .u64 1, .int .u64 0] 41 (0, 0)) := by rw [← hV]; exact heap_alloc_new w14 _
 have lV : w14.1.size < V14.1.size := by rw [← hV]; simp
 have HBV14 := dh (HB14.out.trans (hbV.mono HB14.out.size))
 have HV14 := dh hV
 have H13V_14 := dh (H13_14.out.trans (hbV.mono H13_14.out.size))
 clear hV hbV
 obtain ⟨t1, t2⟩ := HTAB.out V14 HBV14.out
 have hct := takesP_any awA (some ⟨q0, 0, none⟩) 1 1 (some ⟨q2, 0, none⟩) 1 1 none (some ⟨w14.1.size, 0, none⟩) 0 0 2 2 [] [1, 0] [1, 0] V14 V14.1.size ((HA.out.below HBV14.out lR).up HBV14.out.size) ⟨Sl.none_ _ _ _, sl_blkA (n := 2) (size := 1) (xs := ucells [1, 0]) kV rfl rfl (by decide) lV, rfl, rfl⟩ lR (by decide) (by decide) 1 (by decide) (by decide) (by decide) rfl (fun _ k hk => wordA_atW (st := []) (lo := [1, 0]) (by decide) (by decide) k hk) (fun k => wordA_lt (st := []) (lo := [1, 0]) (by decide) (by decide) k) (by decide) (by decide) (by decide)
 rw [awA_chk, aw_acc2, show (decide ((0 : Int) = 0) && decide (0 < 2) && false) = false from rfl] at hct
 have HCT := dh hct
 clear hct t1 t2 kV
 go_wp2_with fail
 show Calls _ _ _ (w14.alloc (.cells #[.int .u64 1, .int .u64 0] 41)) _
 rw [HV14.out]
 refine HCT.out.mono ?_
 rintro e w15 ⟨rfl, hb⟩
 have HB15 := dh (HBV14.out.trans (hb.mono HBV14.out.size))
 have H13_15 := dh (H13V_14.out.trans (hb.mono H13V_14.out.size))
 clear hb HCT a0 a1 a2 b0 b1 b2
 obtain ⟨⟨a0, a1, a2⟩, b0, b1, b2⟩ := HC.out w15 HB15.out
 obtain ⟨V15, hV⟩ := xQ (w15.alloc (.cells #[.int .i64 0] 3))
 have hbV : Below w15.1.size w15 V15 := by rw [← hV]; exact bR.alloc lR _
 have kV : V15.1[w15.1.size]? = some (.cells #[.int .i64 0] 3 (0, 0)) := by rw [← hV]; exact heap_alloc_new w15 _
 have lV : w15.1.size < V15.1.size := by rw [← hV]; simp
 have HBV15 := dh (HB15.out.trans (hbV.mono HB15.out.size))
 have HV15 := dh hV
 have H13V_15 := dh (H13_15.out.trans (hbV.mono H13_15.out.size))
 clear hV hbV
 obtain ⟨t1, t2⟩ := HTAB.out V15 HBV15.out
 have hct := autoCheck_any ⟨0, [0], []⟩ (some ⟨w15.1.size, 0, none⟩) 1 1 none 0 0 V15 V15.1.size ⟨rfl, rfl, sl_blkA (n := 1) (size := 1) kV rfl rfl (by decide) lV, [], Sl.none_ _ _ _, fun k x hk => by cases hk⟩ lR (by decide) (fun x hx => by cases hx)
 rw [awC_chk] at hct
 have HCT := dh hct
 clear hct t1 t2 kV
 go_wp2_with fail
 show Calls _ _ _ (w15.alloc (.cells #[.int .i64 0] 3)) _
 rw [HV15.out]
 refine HCT.out.mono ?_
 rintro e w16 ⟨rfl, hb⟩
 have HB16 := dh (HBV15.out.trans (hb.mono HBV15.out.size))
 have H13_16 := dh (H13V_15.out.trans (hb.mono H13V_15.out.size))
 clear hb HCT a0 a1 a2 b0 b1 b2
 obtain ⟨⟨a0, a1, a2⟩, b0, b1, b2⟩ := HC.out w16 HB16.out
 obtain ⟨t1, t2⟩ := HTAB.out w16 HB16.out
 have hct := emptyP_any awB (some ⟨q4, 0, none⟩) 2 2 (some ⟨q7, 0, none⟩) 2 2 w16 W9.1.size (HB.out.below HB16.out lR) HB16.out.size (by decide) (by decide) 1 (by decide) (by decide) (by decide)
 rw [decide_eq_false awB_init] at hct
 have HCT := dh hct
 clear hct t1 t2
 obtain ⟨e1, e2⟩ := HKT.out w16 H13_16.out
 go_wp2_with fail
 refine HCT.out.mono ?_
 rintro e w17 ⟨rfl, hb⟩
 have HB17 := dh (HB16.out.trans (hb.mono HB16.out.size))
 have H13_17 := dh (H13_16.out.trans (hb.mono H13_16.out.size))
 clear hb HCT a0 a1 a2 b0 b1 b2
 obtain ⟨⟨a0, a1, a2⟩, b0, b1, b2⟩ := HC.out w17 HB17.out
 obtain ⟨t1, t2⟩ := HTAB.out w17 HB17.out
 have hct := emptyP_any Aut.zero none 0 0 none 0 0 w17 w17.1.size (autRd_nil w17 _) lR (by decide) (by decide) 1 (by decide) (by decide) (by decide)
 rw [decide_eq_true awZ_init] at hct
 have HCT := dh hct
 clear hct t1 t2
 go_wp2_with fail
 refine HCT.out.mono ?_
 rintro e w18 ⟨rfl, hb⟩
 have HB18 := dh (HB17.out.trans (hb.mono HB17.out.size))
 have H13_18 := dh (H13_17.out.trans (hb.mono H13_17.out.size))
 clear hb HCT a0 a1 a2 b0 b1 b2
 obtain ⟨u0, u1, hwr18⟩ := HKP.out w18 H13_18.out
 have hac : accB awA [x] 0 = true := accB_iff.2 HWI'.out.2.2.2.2.2.1
 have hx64 : ∀ y ∈ [x], y < 2 ^ 64 := HWI'.out.2.2.2.2.2.2.2
 have htk := takes30L_any awA (some ⟨q0, 0, none⟩) 1 1 (some ⟨q2, 0, none⟩) 1 1 A1 A2 0 c1 1 c2 (natI []) (natI [x]) [x] w18 w18.1.size ((HA.out.below HB18.out lR).up HB18.out.size) (hwr18.up (by have := H13_18.out.size; omega)) lR awA_chk (by decide) (by decide) (by decide) rfl (fun k hk => by have e := wordA_atW (st := natI []) (lo := natI [x]) (natI_bd (fun y hy => by cases hy)) (natI_bd hx64) k (by rw [wordA_nat]; exact hk); rw [wordA_nat] at e; exact e)
  (fun k => by have e := wordA_lt (st := natI []) (lo := natI [x]) (natI_bd (fun y hy => by cases hy)) (natI_bd hx64) k; rw [wordA_nat] at e; exact e) (by decide) 1 (by decide) (by decide) (by decide) (by decide)
 have HTK := dh htk
 have HAC := dh hac
 obtain ⟨⟨a0, a1, a2⟩, b0, b1, b2⟩ := HC.out w18 HB18.out
 clear htk hac hwr18 hx64
 go_wp2_with fail
 refine HTK.out.mono ?_
 rintro e w19 ⟨z, hz, ht⟩
 have ht : Tru w18 (takesB awA [x] z) e w19 := ht
 rw [takesB_acc awA_ok (show 0 < ([x] : List Nat).length from Nat.zero_lt_one) hz, HAC.out] at ht
 obtain ⟨rfl, hb⟩ := ht
 have HB19 := dh (HB18.out.trans (hb.mono HB18.out.size))
 have H13_19 := dh (H13_18.out.trans (hb.mono H13_18.out.size))
 clear hb hz HTK a0 a1 a2 b0 b1 b2 u0 u1
 obtain ⟨⟨a0, a1, a2⟩, b0, b1, b2⟩ := HC.out w19 HB19.out
 obtain ⟨t1, t2⟩ := HTAB.out w19 HB19.out
 have hct := autoSame_any awA awA (some ⟨q0, 0, none⟩) 1 1 (some ⟨q2, 0, none⟩) 1 1 (some ⟨q0, 0, none⟩) 1 1 (some ⟨q2, 0, none⟩) 1 1 w19 W9.1.size (HA.out.below HB19.out lR) (HA.out.below HB19.out lR) HB19.out.size (by decide) (by decide) (by decide)
 rw [decide_eq_true rfl] at hct
 have HCT := dh hct
 clear hct t1 t2
 go_wp2_with fail
 refine HCT.out.mono ?_
 rintro e w20 ⟨rfl, hb⟩
 have HB20 := dh (HB19.out.trans (hb.mono HB19.out.size))
 have H13_20 := dh (H13_19.out.trans (hb.mono H13_19.out.size))
 clear hb HCT a0 a1 a2 b0 b1 b2
 obtain ⟨⟨a0, a1, a2⟩, b0, b1, b2⟩ := HC.out w20 HB20.out
 obtain ⟨t1, t2⟩ := HTAB.out w20 HB20.out
 have hct := autoSame_any awA awB (some ⟨q0, 0, none⟩) 1 1 (some ⟨q2, 0, none⟩) 1 1 (some ⟨q4, 0, none⟩) 2 2 (some ⟨q7, 0, none⟩) 2 2 w20 W9.1.size (HA.out.below HB20.out lR) (HB.out.below HB20.out lR) HB20.out.size (by decide) (by decide) (by decide)
 rw [decide_eq_false aw_ne] at hct
 have HCT := dh hct
 clear hct t1 t2
 go_wp2_with fail
 refine HCT.out.mono ?_
 rintro e w21 ⟨rfl, hb⟩
 have HB21 := dh (HB20.out.trans (hb.mono HB20.out.size))
 have H13_21 := dh (H13_20.out.trans (hb.mono H13_20.out.size))
 clear hb HCT a0 a1 a2 b0 b1 b2
 go_wp2_with fail
 go_ret
 have h1 := HQ0.out
 have h9 := HB9.out
 rw [← h1] at h9
 exact ⟨rfl, h9.trans (HB21.out.mono hqw)⟩
end Go.Proofs.YtiebpncpdbnelaaDoor
