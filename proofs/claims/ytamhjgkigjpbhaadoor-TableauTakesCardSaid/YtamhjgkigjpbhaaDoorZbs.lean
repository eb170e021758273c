/- Texts that stand one behind the other, in one file. -/
import Derived.Test.YtamhjgkigjpbhaaDoorTbX
import Derived.Test.YtamhjgkigjpbhaaDoorZbd
import Derived.Test.YtamhjgkigjpbhaaDoorZaz
import Derived.Test.YtamhjgkigjpbhaaDoorZba
import Derived.Test.YtamhjgkigjpbhaaDoorZad
import Derived.Test.YtamhjgkigjpbhaaDoorZbb
import Derived.Test.YtamhjgkigjpbhaaDoorProg
import Derived.Test.YtamhjgkigjpbhaaDoorMa
import Derived.Outline
import Derived.Test.YtamhjgkigjpbhaaDoorZag
import Derived.Test.YtamhjgkigjpbhaaDoorMe
import Derived.Test.YtamhjgkigjpbhaaDoorZbo
import Derived.Test.YtamhjgkigjpbhaaDoorZal

/- The example of layer 29. -/
namespace Go.Proofs.YtamhjgkigjpbhaaDoor
open Go.RowKit Go.Maps

def exF29 : List Nd := [⟨3, 0⟩, ⟨3, 1⟩, ⟨9, 0⟩]
def exG29 : List Nd := [⟨1, 0⟩, ⟨4, 0⟩]
def exA29 : Aut := ⟨1, [0, 1], [⟨2, 0, 1, [2]⟩, ⟨1, 0, 0, [0, 1]⟩, ⟨0, 0, 1, [2]⟩]⟩
theorem exE29 : ofE exF29 = 0 := by decide +kernel
theorem exB29 : ofE exG29 = 3 := by decide +kernel
theorem exO29 : ofA exF29 = exA29 := by kernel_rfl
set_option maxHeartbeats 4000000 in
set_option maxRecDepth 100000 in
theorem until29_any (w : World) : Calls Tryd.prog 18 #[] w fun e w' => e = .returned (.slice (some ⟨w.heap.size, 0, none⟩) 3 3) ∧ Sl w' w'.heap.size 2 (some ⟨w.heap.size, 0, none⟩) 3 3 (ncells exF29) ∧ Below w.heap.size w w' := by
  have hx0 := heap_alloc_new w (.cells #[.int .i64 3, .int .i64 0, .int .i64 3, .int .i64 1, .int .i64 9, .int .i64 0] 47)
  go_enter Tryd.func18, Tryd.ntmps18
  go_wp2_with fail
  go_ret
  exact ⟨rfl, sl_blkT hx0 rfl rfl (by decide) (by simp), (Below.refl _ _).alloc (Nat.le_refl _) _⟩
set_option maxHeartbeats 4000000 in
set_option maxRecDepth 100000 in
theorem works29_any (w : World) (hT : TzTab w) : Calls Tryd.prog 8 #[] w (Tru w true) := by
  have HU := Lib.hid (until29_any w)
  have HT := Lib.hid hT
  clear hT
  go_enter Tryd.func8, Tryd.ntmps8
  go_wp2_with fail
  refine Calls.mono HU.out ?_
  rintro e w1 ⟨rfl, hf1, hb1⟩
  have HO := Lib.hid (tabOf_any (some ⟨w.heap.size, 0, none⟩) 3 exF29 w1 hf1 (tz_below HT.out hb1) (by decide) (fun _ _ _ => by decide))
  rw [exE29, exO29] at HO
  clear hf1
  go_wp2_with fail
  refine Calls.mono HO.out ?_
  rintro e w2 ⟨Ai, ni, ci, An, nn, cn, rfl, hrd, hb2⟩
  have hb02 : Below w.heap.size w w2 := hb1.trans (hb2.mono hb1.size)
  obtain ⟨xs, hsl, hnd⟩ := hrd.nodes
  have hni := hrd.eni
  have hnn := hrd.enn
  change ni = 2 at hni
  change nn = 3 at hnn
  subst hni hnn
  obtain ⟨A0, c0, a0, a1, a2, a3, -⟩ := hnd 0 ⟨2, 0, 1, [2]⟩ rfl
  obtain ⟨A1, c1, b0, b1, b2, b3, -⟩ := hnd 1 ⟨1, 0, 0, [0, 1]⟩ rfl
  obtain ⟨A2, c2, d0, d1, d2, d3, hto⟩ := hnd 2 ⟨0, 0, 1, [2]⟩ rfl
  have hini := hrd.init
  rcases hsl.rd with h0 | ⟨b, off, rfl, hbl, hc⟩
  · rw [h0] at a0; simp at a0
  have p0 := hc _ _ a0
  have p4 := hc _ _ b0
  have p6 := hc _ _ b2
  have p11 := hc _ _ d3
  change w2.cell? ⟨b, off, none⟩ = some (.int .u64 2) at p0
  change w2.cell? ⟨b, off + 4, none⟩ = some (.int .u64 1) at p4
  change w2.cell? ⟨b, off + 6, none⟩ = some (.int .u64 0) at p6
  change w2.cell? ⟨b, off + 11, none⟩ = some (.slice A2 1 c2) at p11
  have hcn := hsl.cap
  have hci := hini.cap
  have HINI := Lib.hid hini
  have HTO := Lib.hid hto
  clear a0 a1 a2 a3 b0 b1 b2 b3 d0 d1 d2 d3 hc hnd hrd hsl hini hto
  rw [show exA29.sets = (1 : Int) from rfl]
  obtain ⟨hb3, x3, y3, z3⟩ := box5 w2 (.cells #[.int .i64 1, .slice Ai 2 ci, .slice (some ⟨b, off, none⟩) 3 cn] 28) (.cells #[.int .i64 1, .int .i64 0, .int .i64 4, .int .i64 0] 47)
  obtain ⟨W3, hW3⟩ : ∃ W3, (w2.alloc (.cells #[.int .i64 1, .slice Ai 2 ci, .slice (some ⟨b, off, none⟩) 3 cn] 28)).alloc (.cells #[.int .i64 1, .int .i64 0, .int .i64 4, .int .i64 0] 47) = W3 := ⟨_, rfl⟩
  rw [hW3] at hb3 x3 y3 z3
  have HW3 := Lib.hid hW3
  have hb03 : Below w.heap.size w W3 := hb02.trans (hb3.mono hb02.size)
  have HO2 := Lib.hid (tabOf_any (some ⟨w2.heap.size + 1, 0, none⟩) 2 exG29 W3 (sl_blkT y3 rfl rfl (by decide) (by omega)) (tz_below HT.out hb03) (by decide) (fun h => by revert h; decide +kernel))
  rw [exB29] at HO2
  clear hW3 y3
  go_wp2_with fail
  rw [HW3.out]
  refine Calls.mono HO2.out ?_
  rintro e w4 ⟨Bi, mi, di, Bn, mn, dn, rfl, -, hb4⟩
  have hb04 : Below w.heap.size w w4 := hb03.trans (hb4.mono hb03.size)
  have hb24 : Below w2.heap.size w2 w4 := hb3.trans (hb4.mono (by omega))
  have x4 := (hb4.block w2.heap.size (by omega)).trans x3
  obtain ⟨k0, k1, k2⟩ := box3T x4
  replace p0 := (hb24.cell (p := ⟨b, off, none⟩) hbl).trans p0
  replace p4 := (hb24.cell (p := ⟨b, off + 4, none⟩) hbl).trans p4
  replace p6 := (hb24.cell (p := ⟨b, off + 6, none⟩) hbl).trans p6
  replace p11 := (hb24.cell (p := ⟨b, off + 11, none⟩) hbl).trans p11
  have hA : ofA exG29 = ⟨0, [], []⟩ := by unfold ofA; rw [exB29]; rfl
  rw [hA]
  have hw24 : w2.heap.size < w4.heap.size := by have := hb4.size; omega
  have hb24' : b < w4.heap.size := by omega
  obtain ⟨hb5, -, y5, z5⟩ := box5 w4 (.cells #[.int .i64 0, .slice Bi mi di, .slice Bn mn dn] 28) (.cells #[.int .i64 0, .int .i64 1] 3)
  obtain ⟨W5, hW5⟩ : ∃ W5, (w4.alloc (.cells #[.int .i64 0, .slice Bi mi di, .slice Bn mn dn] 28)).alloc (.cells #[.int .i64 0, .int .i64 1] 3) = W5 := ⟨_, rfl⟩
  rw [hW5] at hb5 y5 z5
  have HW5 := Lib.hid hW5
  have HEQ := Lib.hid (equalI_any Ai (some ⟨w4.heap.size + 1, 0, none⟩) 2 ci 2 2 [0, 1] [0, 1] W5 w2.heap.size W5.heap.size ((HINI.out.below hb24 (Nat.le_refl _)).below hb5 (by omega)) (sl_blkT y5 rfl rfl (by decide) (by omega)) rfl rfl (by decide))
  rw [show decide (([0, 1] : List Int) = [0, 1]) = true from rfl] at HEQ
  clear hW5 y5
  go_wp2_with fail
  rw [HW5.out]
  refine Calls.mono HEQ.out ?_
  rintro e w6 ⟨rfl, m6, hw6⟩
  have hb6 : Below W5.heap.size W5 w6 := by rw [hw6]; exact ((Tch.refl (fun _ => False) W5).drewN m6).below (Nat.le_refl _) (fun _ _ h => h)
  clear hw6
  have hb46 : Below w4.heap.size w4 w6 := hb5.trans (hb6.mono (by omega))
  replace k0 := (hb46.cell (p := ⟨w2.heap.size, 0, none⟩) hw24).trans k0
  replace k1 := (hb46.cell (p := ⟨w2.heap.size, 1, none⟩) hw24).trans k1
  replace k2 := (hb46.cell (p := ⟨w2.heap.size, 2, none⟩) hw24).trans k2
  replace p0 := (hb46.cell (p := ⟨b, off, none⟩) hb24').trans p0
  replace p4 := (hb46.cell (p := ⟨b, off + 4, none⟩) hb24').trans p4
  replace p6 := (hb46.cell (p := ⟨b, off + 6, none⟩) hb24').trans p6
  replace p11 := (hb46.cell (p := ⟨b, off + 11, none⟩) hb24').trans p11
  have hx7 := heap_alloc_new w6 (.cells #[.int .i64 2] 3)
  have hb7 : Below w6.heap.size w6 (w6.alloc (.cells #[.int .i64 2] 3)) := (Below.refl _ _).alloc (Nat.le_refl _) _
  have hb26 : Below w2.heap.size w2 w6 := hb24.trans (hb46.mono (by omega))
  have HEQ2 := Lib.hid (equalI_any A2 (some ⟨w6.heap.size, 0, none⟩) 1 c2 1 1 [2] [2] (w6.alloc (.cells #[.int .i64 2] 3)) w2.heap.size (w6.heap.size + 1) ((HTO.out.below hb26 (Nat.le_refl _)).below hb7 hb26.size) (sl_blkT hx7 rfl rfl (by decide) (by omega)) rfl rfl (by decide))
  rw [show decide (([2] : List Int) = [2]) = true from rfl] at HEQ2
  have h6a : b < w6.heap.size := by have := hb26.size; omega
  have h6b : w2.heap.size < w6.heap.size := by have := hb46.size; omega
  clear hx7
  go_wp2_with fail
  refine Calls.mono HEQ2.out ?_
  rintro e w8 ⟨rfl, m8, hw8⟩
  have hb8 : Below w6.heap.size w6 w8 := by rw [hw8]; exact (((Tch.refl (fun _ => False) (w6.alloc (.cells #[.int .i64 2] 3))).drewN m8).below (Nat.le_refl _) (fun _ _ h => h)).mono (by simp) |> hb7.trans
  clear hw8
  go_wp2_with fail
  go_ret
  exact ⟨rfl, (hb04.trans (hb46.mono hb04.size)).trans (hb8.mono (by have := hb04.size; have := hb46.size; omega))⟩
end Go.Proofs.YtamhjgkigjpbhaaDoor

/- How the numbers of a formula's automaton run (layer 29); plain. -/
namespace Go.Proofs.YtamhjgkigjpbhaaDoor

/-- How far the numbers went that were told. -/
def nxR (m : Nat) (r : List Nat) : Nat := r.foldl (fun m x => max m (x + 1)) m
def nxA (m : Nat) (rows : List (List Nat)) : Nat := rows.foldl nxR m
theorem nxR_snoc (m : Nat) (r : List Nat) (x : Nat) : nxR m (r ++ [x]) = max (nxR m r) (x + 1) := by simp [nxR, List.foldl_append]
theorem nxA_snoc (m : Nat) (rows : List (List Nat)) (r : List Nat) : nxA m (rows ++ [r]) = nxR (nxA m rows) r := by simp [nxA, List.foldl_append]
theorem addC_step (L : List Cov) (c : Cov) : (addC L c).idxOf c ≤ L.length ∧ max L.length ((addC L c).idxOf c + 1) = (addC L c).length := by
  unfold addC
  by_cases hm : c ∈ L
  · rw [if_pos hm]
    have := List.idxOf_lt_length_of_mem hm
    omega
  · rw [if_neg hm, List.idxOf_append, if_neg hm, List.length_append, List.length_singleton]
    simp
theorem rowL_take {T L : List Cov} {k : Nat} : rowL (onceC T L) (T.take k) = rowL (onceC (T.take k) L) (T.take k) := by
  have e : onceC T L = onceC (T.drop k) (onceC (T.take k) L) := by rw [← onceC_app, List.take_append_drop]
  obtain ⟨m, hm⟩ := onceC_pre (T.drop k) (onceC (T.take k) L)
  rw [e, hm]
  exact rowL_pre (fun c hc => once_has hc)
theorem row_get {T L : List Cov} {k : Nat} (hk : k < T.length) : (rowL (onceC T L) T)[k]? = some ((addC (onceC (T.take k) L) T[k]).idxOf T[k]) := by
  have h1 : (rowL (onceC T L) (T.take (k + 1)))[k]? = some ((addC (onceC (T.take k) L) T[k]).idxOf T[k]) := by
    rw [rowL_take, row_snoc hk]
    rw [List.getElem?_append_right (by simp [rowL]; omega)]
    simp [rowL, Nat.min_eq_left (Nat.le_of_lt hk)]
  have h2 : rowL (onceC T L) (T.take (k + 1)) = (rowL (onceC T L) T).take (k + 1) := by simp [rowL, List.map_take]
  rw [h2, List.getElem?_take] at h1
  simpa using h1
theorem nx_row {T L : List Cov} : ∀ k, k ≤ T.length → nxR L.length ((rowL (onceC T L) T).take k) = (onceC (T.take k) L).length
  | 0, _ => by simp [nxR, onceC]
  | k + 1, hk => by
    have hl : k < (rowL (onceC T L) T).length := by simp [rowL]; omega
    have hx : (rowL (onceC T L) T)[k] = (addC (onceC (T.take k) L) T[k]).idxOf T[k] := by
      have := row_get (L := L) (show k < T.length by omega)
      rw [List.getElem?_eq_getElem hl] at this
      exact Option.some.inj this
    rw [take_snoc _ k hl, nxR_snoc, nx_row k (by omega), hx, once_snoc (by omega)]
    exact (addC_step _ _).2
/-- The numbers rise as they are met. -/
structure Scan (m0 : Nat) (L : List Cov) (rows : List (List Nat)) : Prop where
  eq : nxA m0 rows = L.length
  lt : ∀ i, i < rows.length → i < nxA m0 (rows.take i)
  le : ∀ i k x, i < rows.length → (rows.getD i [])[k]? = some x → x ≤ nxR (nxA m0 (rows.take i)) ((rows.getD i []).take k)
theorem Scan.step {m0 : Nat} {L : List Cov} {rows : List (List Nat)} (h : Scan m0 L rows) (hlt : rows.length < L.length) (T : List Cov) : Scan m0 (onceC T L) (rows ++ [rowL (onceC T L) T]) := by
  have hnew : nxA m0 (rows ++ [rowL (onceC T L) T]) = (onceC T L).length := by
    rw [nxA_snoc, h.eq]
    have := nx_row (T := T) (L := L) T.length (Nat.le_refl _)
    rw [List.take_length, List.take_of_length_le (by simp [rowL])] at this
    exact this
  have htk : ∀ i, i ≤ rows.length → (rows ++ [rowL (onceC T L) T]).take i = rows.take i := fun i hi => by rw [List.take_append_of_le_length hi]
  refine ⟨hnew, fun i hi => ?_, fun i k x hi hx => ?_⟩
  · rw [List.length_append, List.length_singleton] at hi
    rw [htk i (by omega)]
    by_cases hil : i < rows.length
    · exact h.lt i hil
    · have : i = rows.length := by omega
      subst this
      rw [List.take_length, h.eq]; exact hlt
  · rw [List.length_append, List.length_singleton] at hi
    rw [htk i (by omega)]
    by_cases hil : i < rows.length
    · have hg : (rows ++ [rowL (onceC T L) T]).getD i [] = rows.getD i [] := by
        rw [List.getD_eq_getElem?_getD, List.getElem?_append_left hil, ← List.getD_eq_getElem?_getD]
      rw [hg] at hx ⊢
      exact h.le i k x hil hx
    · have : i = rows.length := by omega
      subst this
      have hg : (rows ++ [rowL (onceC T L) T]).getD rows.length [] = rowL (onceC T L) T := by rw [List.getD_eq_getElem?_getD, List.getElem?_append_right (Nat.le_refl _)]; simp
      rw [hg] at hx ⊢
      rw [List.take_length, h.eq]
      have hk : k < T.length := by have := (List.getElem?_eq_some_iff.1 hx).1; simpa [rowL] using this
      rw [row_get hk] at hx
      rw [nx_row k (Nat.le_of_lt hk), ← Option.some.inj hx]
      exact (addC_step _ _).1
theorem tabIt_scan {f : List Nd} {m0 : Nat} : ∀ (k : Nat) (L : List Cov) (rows : List (List Nat)), Scan m0 L rows → ∀ L' rows', tabIt f k L rows = some (L', rows') → Scan m0 L' rows' ∧ (L.length ≤ 256 → L'.length ≤ 256)
  | 0, _, _, _, _, _, h => by cases h
  | k + 1, L, rows, hi, L', rows', h => by
    unfold tabIt at h
    split at h
    · next hlt =>
      split at h
      · cases h
      · next hb =>
        obtain ⟨a, b⟩ := tabIt_scan k _ _ (hi.step hlt _) L' rows' h
        exact ⟨a, fun _ => b (by omega)⟩
    · injection h with h
      injection h with h1 h2
      subst h1; subst h2
      exact ⟨hi, fun h => h⟩
theorem tab_scan {f : List Nd} {L : List Cov} {rows : List (List Nat)} (h : tabL f = some (L, rows)) : Scan (firstL f).length L rows ∧ L.length ≤ 256 := by
  unfold tabL at h
  split at h
  · cases h
  · next hb =>
    obtain ⟨a, b⟩ := tabIt_scan _ _ _ (show Scan (firstL f).length (firstL f) [] from ⟨rfl, fun i hi => by simp at hi, fun i k x hi => by simp at hi⟩) L rows h
    exact ⟨a, b (by omega)⟩
theorem meets_lt (f : List Nd) (now : List Int) : meetsN f now < 2 ^ (utl 0 f).length := by
  unfold meetsN
  split
  · refine Nat.lt_pow_two_of_testBit _ (fun i hi => ?_)
    rw [meets_bit]
    simp; omega
  · exact Nat.two_pow_pos _
end Go.Proofs.YtamhjgkigjpbhaaDoor

/- TableauReached. -/
namespace Go.Proofs.YtamhjgkigjpbhaaDoor
open Go.RowKit Go.Maps

theorem tab_node {f : List Nd} {L : List Cov} {rows : List (List Nat)} {init : List Nat} {k : Nat} {x : ANd} (h : (tabA f L rows init).nodes[k]? = some x) :
    ∃ c, L[k]? = some c ∧ x = ⟨c.1, c.2.1, meetsN f (natI (onL c.2.2.2)), natI (rows.getD k [])⟩ := by
  have hkl : k < L.length := by have := (List.getElem?_eq_some_iff.1 h).1; rwa [tabA_len] at this
  have hc : L[k]? = some L[k] := List.getElem?_eq_getElem hkl
  refine ⟨_, hc, ?_⟩
  have := tabA_at (f := f) (rows := rows) (init := init) hc
  unfold Aut.at at this
  rw [List.getD_eq_getElem?_getD, h] at this
  exact this
/-- What tableau.Of answers, where all is well. -/
theorem of_good {f : List Nd} (h : ofE f = 0) : ∃ L rows, isN f = true ∧ (untils f).length ≤ 16 ∧ tabL f = some (L, rows) ∧ ofA f = tabA f L rows (List.range (firstL f).length) := by
  have h0 := h
  unfold ofE at h
  split at h
  · cases h
  · next hN =>
    split at h
    · cases h
    · split at h
      · cases h
      · next h16 =>
        cases ht : tabL f with
        | none => rw [ht] at h; cases h
        | some p =>
          obtain ⟨L, rows⟩ := p
          refine ⟨L, rows, by simpa using hN, by omega, rfl, ?_⟩
          unfold ofA
          rw [if_pos h0, ht]
theorem utl_untils {f : List Nd} (h : isN f = true) : untils f = utl 0 f := by unfold untils; rw [if_pos (isN_good h)]
theorem chk_tab {f : List Nd} {L : List Cov} {rows : List (List Nat)} (hN : isN f = true) (h16 : (untils f).length ≤ 16) (ht : tabL f = some (L, rows)) : chkA (tabA f L rows (List.range (firstL f).length)) = 0 := by
  have hT := tab_ok hN (isN_pos hN) ht
  have hu := utl_untils hN
  refine chkA_zero (by rw [tabA_len]; exact (tab_scan ht).2) ?_ (tabA_ok hT) (fun x hx => ?_)
  · show (0 : Int) ≤ ((utl 0 f).length : Int) ∧ ((utl 0 f).length : Int) ≤ 16
    rw [← hu]; omega
  · obtain ⟨k, hk, rfl⟩ := List.mem_iff_getElem.1 hx
    obtain ⟨c, _, hxe⟩ := tab_node (List.getElem?_eq_getElem hk)
    rw [hxe]
    show meetsN f _ < 2 ^ ((utl 0 f).length : Int).toNat
    simpa using meets_lt f _
end Go.Proofs.YtamhjgkigjpbhaaDoor

/- The walks of layer 27: parts, formula, Long, next, heavy. -/
namespace Go.Proofs.YtamhjgkigjpbhaaDoor
open Go.RowKit

/-- How many parts an operation takes, a proposition's number looked at. -/
def partsW (x : Nd) : Int := if x.op = 3 ∧ ¬ (0 ≤ x.n ∧ x.n < 8) then -1 else takes x.op
theorem partsW_bad {x : Nd} {d : Nat} : bad x d = 0 ↔ 0 ≤ partsW x ∧ partsW x ≤ (d : Int) := by
  have hb := takes_bd x.op
  constructor
  · intro h
    obtain ⟨h0, h1, h3⟩ := good_takes h
    unfold partsW
    rw [if_neg (fun hh => hh.2 (h3 hh.1))]
    exact ⟨h0, h1⟩
  · rintro ⟨h0, h1⟩
    unfold partsW at h0 h1
    by_cases h3 : x.op = 3 ∧ ¬ (0 ≤ x.n ∧ x.n < 8)
    · rw [if_pos h3] at h0; omega
    · rw [if_neg h3] at h0 h1
      refine bad_none h0 h1 ?_
      by_cases e : x.op = 3
      · exact .inr (Classical.byContradiction fun hh => h3 ⟨e, hh⟩)
      · exact .inl e
theorem op_cases (op : Int) : op = 1 ∨ op = 2 ∨ op = 3 ∨ op = 4 ∨ op = 5 ∨ op = 6 ∨ op = 7 ∨ op = 8 ∨ op = 9 ∨ op = 10 ∨ op = 11 ∨ op = 12 ∨ (op < 1 ∨ 12 < op) := by omega
/-- How deep the stack is ahead of node k, if all went well. -/
theorem scan_more {f : List Nd} {k d : Nat} (hk : k < f.length) (hs : scan (f.take k) 0 = (0, d)) (hp : 0 ≤ partsW f[k]) (hd : partsW f[k] ≤ (d : Int)) :
    scan (f.take (k + 1)) 0 = (0, d - (partsW f[k]).toNat + 1) := by
  have hb := partsW_bad.2 ⟨hp, hd⟩
  have e : partsW f[k] = takes f[k].op := by
    unfold partsW
    rw [if_neg (fun hh => hh.2 ((good_takes hb).2.2 hh.1))]
  rw [e]
  exact scan_ok hk hs hb
theorem scan_stop {f : List Nd} {k d : Nat} (hk : k < f.length) (hs : scan (f.take k) 0 = (0, d)) (hp : partsW f[k] < 0 ∨ (d : Int) < partsW f[k]) : wrong f ≠ 0 := by
  have hb : bad f[k] d ≠ 0 := fun h => by have := partsW_bad.1 h; omega
  rw [(scan_bad hk hs hb).1]; exact hb
theorem scan_last {f : List Nd} {d : Nat} (hs : scan f 0 = (0, d)) : (wrong f == 0) = (((d : Int)) == 1) := by
  by_cases hf : f = []
  · subst hf
    simp [scan] at hs
    subst hs
    rfl
  · have hw := wrong_end hf hs
    have hr := runs_stack hs
    have hd : 1 ≤ d := by
      rw [← hr]
      have hne : f ≠ [] := hf
      obtain ⟨g, x, rfl⟩ : ∃ g x, f = g ++ [x] := ⟨f.dropLast, f.getLast hne, (List.dropLast_concat_getLast hne).symm⟩
      rw [runs, List.foldl_append]
      simp [stp]
    rw [hw, Bool.eq_iff_iff]
    split <;> simp <;> omega
theorem rnext_any (A1 A2 : Option Addr) (n1 c1 n2 c2 : Nat) (k : Nat) (w : World) (hl : n1 + n2 ≤ 60000) (hk : k < n1 + n2) :
    Calls Tryd.prog 70 #[.agg #[.slice A1 n1 c1, .slice A2 n2 c2], .int .i64 (k : Int)] w (Num w ((nx n1 (n1 + n2) k : Nat) : Int)) := by
  obtain ⟨hb, hx1, hx2⟩ := wbox w A1 A2 n1 c1 n2 c2
  have HX1 := Lib.hid hx1
  have hlt := hb.size
  clear hx1 hx2
  by_cases h : k + 1 < n1 + n2
  · have e : nx n1 (n1 + n2) k = k + 1 := by rw [nx, if_pos h]
    rw [e]
    clear e
    have d : ((k : Int) + 1) < ((n1 + n2 : Nat) : Int) := by omega
    go_enter Tryd.func70, Tryd.ntmps70
    go_wp2_with fail
    refine (rLen_any A1 A2 n1 c1 n2 c2 _ hl).mono ?_
    rintro e w1 ⟨rfl, hb1⟩
    go_wp2
    go_ret
    exact ⟨ret_int (by omega), hb.trans (hb1.mono (by simp))⟩
  · have e : nx n1 (n1 + n2) k = n1 := by rw [nx, if_neg h]
    rw [e]
    clear e
    have d : ¬ ((k : Int) + 1) < ((n1 + n2 : Nat) : Int) := by omega
    go_enter Tryd.func70, Tryd.ntmps70
    go_wp2_with fail
    refine (rLen_any A1 A2 n1 c1 n2 c2 _ hl).mono ?_
    rintro e w1 ⟨rfl, hb1⟩
    have hc := (hb1.cell (p := ⟨w.heap.size, 0, none⟩) (by simp)).trans HX1.out
    go_wp2
    go_ret
    exact ⟨rfl, hb.trans (hb1.mono (by simp))⟩
end Go.Proofs.YtamhjgkigjpbhaaDoor
