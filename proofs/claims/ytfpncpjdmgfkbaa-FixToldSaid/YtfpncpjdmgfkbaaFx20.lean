/- The walk of the laws of fix: awake. -/
import Derived.Test.YtfpncpjdmgfkbaaFx19
import Derived.Test.YtfpncpjdmgfkbaaBoolsL39
namespace Go.Proofs.Ytfpncpjdmgfkbaa
open Go.RowKit

def Gaw : Gph := ⟨[0], [[⟨1, 0⟩, ⟨2, 0⟩], [⟨0, 0⟩], []], [0, 0, 0]⟩
def endS : List (List Bool) := [[false, false, true]]
theorem gfp_of {E : List (List Nd)} {asks : List (Nat → Bool)} {z : List Bool} (n : Nat) (h : (List.range n).foldl (fun z _ => roundZ E asks z) (List.replicate E.length true) = z) (hf : roundZ E asks z = z) : Gfp E asks z := by
  have key : ∀ (l : List Nat) (y : List Bool), GInv E asks y → GInv E asks (l.foldl (fun z _ => roundZ E asks z) y) := by
    intro l
    induction l with
    | nil => intro y h; exact h
    | cons a l ih => intro y h; exact ih _ h.round
  have h1 := key (List.range n) _ (GInv.start E asks)
  rw [h] at h1
  exact h1.done (by rw [hf]; exact SubB.refl _)
theorem aw_none : Gfp Gaw.edges (asksOf []) [true, true, false] := gfp_of 1 (by decide +kernel) (by decide +kernel)
theorem aw_end : Gfp Gaw.edges (asksOf endS) [false, false, false] := gfp_of 2 (by decide +kernel) (by decide +kernel)
theorem aw_lens : ∀ l ∈ Gaw.edges, l.length ≤ 2 := by decide +kernel
theorem aw_i1 : initB [true, true, false] Gaw.init = true := by decide +kernel
theorem aw_i2 : initB [false, false, false] Gaw.init = false := by decide +kernel
theorem aw_is1 : isB 3 Gaw.edges Gaw.init [] [] [0, 1] = true := by decide +kernel
theorem aw_is2 : isB 3 Gaw.edges Gaw.init [] [] [0, 2] = false := by decide +kernel
theorem sl2_nil (w : World) (B : Nat) : Sl2 w B 1 none 0 0 (([] : List (List Bool)).map bcells) := Sl2.none_ _ _ _

set_option maxHeartbeats 8000000 in
set_option maxRecDepth 100000 in
theorem awakeF_any (w : World) : Calls Try.prog 35 #[] w (Tru w true) := by
  have hmk := run_make_row' (P := Try.prog) 24 60 (.int .u64 0) 8 Try.underlying24 infoU rfl .i64 .i64 3 (by omega) (by omega)
  have hmk2 := run_make_row' (P := Try.prog) 35 4 (.bool false) 1 Try.underlying35 infoBool rfl .i64 .i64 3 (by omega) (by omega)
  simp only [show ((3 : Nat) : Int) = 3 from rfl] at hmk hmk2
  go_enter Try.func35, Try.ntmps35
  go_wp2_with fail
  simp only [Nat.add_assoc, Nat.reduceAdd]
  have hA := heap_allocL [.cells #[.int .i64 0] 3, .cells #[.int .i64 1, .int .i64 0, .int .i64 2, .int .i64 0] 42, .cells #[.int .i64 0, .int .i64 0] 42, .cells #[.slice (some ⟨w.heap.size + 1, 0, none⟩) 2 2, .slice (some ⟨w.heap.size + 2, 0, none⟩) 1 1, .slice none 0 0] 34, .cells (madeCells #[.int .u64 0] 3) 60,
    .cells #[.slice (some ⟨w.heap.size, 0, none⟩) 1 1, .slice (some ⟨w.heap.size + 3, 0, none⟩) 3 3, .slice (some ⟨w.heap.size + 4, 0, none⟩) 3 3] 26, .cells #[.bool false, .bool false, .bool true] 4, .cells #[.slice (some ⟨w.heap.size + 6, 0, none⟩) 3 3] 35] w
  simp only [List.foldl_cons, List.foldl_nil] at hA
  obtain ⟨h1, hb1, hz1⟩ := hA
  obtain ⟨wA, hwA⟩ : ∃ W, W = (((((((w.alloc (.cells #[.int .i64 0] 3)).alloc (.cells #[.int .i64 1, .int .i64 0, .int .i64 2, .int .i64 0] 42)).alloc (.cells #[.int .i64 0, .int .i64 0] 42)).alloc (.cells #[.slice (some ⟨w.heap.size + 1, 0, none⟩) 2 2, .slice (some ⟨w.heap.size + 2, 0, none⟩) 1 1, .slice none 0 0] 34)).alloc (.cells (madeCells #[.int .u64 0] 3) 60)).alloc
    (.cells #[.slice (some ⟨w.heap.size, 0, none⟩) 1 1, .slice (some ⟨w.heap.size + 3, 0, none⟩) 3 3, .slice (some ⟨w.heap.size + 4, 0, none⟩) 3 3] 26)).alloc (.cells #[.bool false, .bool false, .bool true] 4)).alloc (.cells #[.slice (some ⟨w.heap.size + 6, 0, none⟩) 3 3] 35) := ⟨_, rfl⟩
  rw [← hwA] at h1 hb1 hz1
  rw [← hwA]
  simp only [List.length_cons, List.length_nil, Nat.zero_add, Nat.reduceAdd] at hz1
  have b0 := h1 0 (by simp)
  have b1 := h1 1 (by simp)
  have b2 := h1 2 (by simp)
  have b3 := h1 3 (by simp)
  have b4 := h1 4 (by simp)
  have b5 := h1 5 (by simp)
  have b6 := h1 6 (by simp)
  have b7 := h1 7 (by simp)
  have hGA : GrRd wA wA.heap.size (some ⟨w.heap.size, 0, none⟩) 1 1 (some ⟨w.heap.size + 3, 0, none⟩) 3 3 (some ⟨w.heap.size + 4, 0, none⟩) 3 3 Gaw := by
    refine ⟨sl_blk (T := 3) (cs := #[.int .i64 0]) b0 rfl (by decide) (by decide) (by omega), ⟨_, sl_blk (T := 34) (cs := #[.slice (some ⟨w.heap.size + 1, 0, none⟩) 2 2, .slice (some ⟨w.heap.size + 2, 0, none⟩) 1 1, .slice none 0 0]) b3 rfl (by simp) (by decide) (by omega), by simp [Gaw], fun j ys hj => ?_⟩, sl_blk (T := 60) b4 (toList_madeCells_one _ _) (by decide) (by decide) (by omega)⟩
    match j, hj with
    | 0, hj => simp [Gaw, ncells] at hj; subst hj; exact ⟨_, 2, 2, rfl, sl_blk (T := 42) b1 rfl (by decide) (by decide) (by omega)⟩
    | 1, hj => simp [Gaw, ncells] at hj; subst hj; exact ⟨_, 1, 1, rfl, sl_blk (T := 42) b2 rfl (by decide) (by decide) (by omega)⟩
    | 2, hj => simp [Gaw, ncells] at hj; subst hj; exact ⟨_, 0, 0, rfl, Sl.none_ _ _ _⟩
    | n + 3, hj => simp [Gaw] at hj
  have hEA : Sl2 wA wA.heap.size 1 (some ⟨w.heap.size + 7, 0, none⟩) 1 1 (endS.map bcells) := by
    refine ⟨_, sl_blk (T := 35) (cs := #[.slice (some ⟨w.heap.size + 6, 0, none⟩) 3 3]) b7 rfl (by simp) (by decide) (by omega), by simp [endS], fun j ys hj => ?_⟩
    match j, hj with
    | 0, hj => simp [endS] at hj; subst hj; exact ⟨_, 3, 3, rfl, sl_blk (T := 4) b6 rfl (by decide) (by decide) (by omega)⟩
    | n + 1, hj => simp [endS] at hj
  obtain ⟨⟨g0, g1, g2⟩, _, _⟩ := blk3 b5
  have HG0 := Lib.hid (And.intro g0 (And.intro g1 g2))
  have hszA : w.heap.size + 8 ≤ wA.heap.size := by omega
  clear h1 hz1 hwA b0 b1 b2 b3 b4 b5 b6 b7 g0 g1 g2
  have HL1 := Lib.hid (floop_any (some ⟨w.heap.size, 0, none⟩) (some ⟨w.heap.size + 3, 0, none⟩) (some ⟨w.heap.size + 4, 0, none⟩) 1 1 3 3 3 3 Gaw [] none 0 0 [true, true, false] wA wA.heap.size hGA (sl2_nil _ _) aw_none (Nat.le_refl _) (by omega) (by omega) (by omega) 2 aw_lens (by omega) (by omega))
  have HGA := Lib.hid hGA
  have HEA := Lib.hid hEA
  clear hGA hEA
  refine HL1.out.mono ?_
  rintro e wB ⟨hbB, hl⟩
  rcases hl with ⟨hi, _⟩ | ⟨_, stem, loop, s1, s2, n1, c1, n2, c2, rfl, hs1, hs2, hisl, hn1, hn2⟩
  · rw [aw_i1] at hi; cases hi
  have hzB := hbB.size
  have k0 := (hbB.cell (p := ⟨w.heap.size + 5, 0, none⟩) (show w.heap.size + 5 < wA.heap.size by omega)).trans HG0.out.1
  have k1 := (hbB.cell (p := ⟨w.heap.size + 5, 1, none⟩) (show w.heap.size + 5 < wA.heap.size by omega)).trans HG0.out.2.1
  have k2 := (hbB.cell (p := ⟨w.heap.size + 5, 2, none⟩) (show w.heap.size + 5 < wA.heap.size by omega)).trans HG0.out.2.2
  have hlB : w.heap.size + 5 < wB.heap.size := by omega
  have HIS := Lib.hid (isB_iff.2 hisl)
  have HS1 := Lib.hid hs1
  have HS2 := Lib.hid hs2
  clear HL1 hisl hs1 hs2
  go_wp2_with fail
  obtain ⟨wC, hwC⟩ : ∃ W, W = wB.alloc (.cells #[.slice s1 n1 c1, .slice s2 n2 c2] 51) := ⟨_, rfl⟩
  have hbC : Below wB.heap.size wB wC := by rw [hwC]; exact (Below.refl _ _).alloc (Nat.le_refl _) _
  have hlC := blk2 (show wC.heap[wB.heap.size]? = some (.cells #[.slice s1 n1 c1, .slice s2 n2 c2] 51 (0, 0)) by rw [hwC]; exact heap_alloc_new _ _)
  obtain ⟨⟨l0, l1⟩, _, hlC2⟩ := hlC
  rw [← hwC]
  have hbAC : Below wA.heap.size wA wC := hbB.trans (hbC.mono hzB)
  have hzC := hbC.size
  have HL2 := Lib.hid (floop_any (some ⟨w.heap.size, 0, none⟩) (some ⟨w.heap.size + 3, 0, none⟩) (some ⟨w.heap.size + 4, 0, none⟩) 1 1 3 3 3 3 Gaw endS (some ⟨w.heap.size + 7, 0, none⟩) 1 1 [false, false, false] wC wA.heap.size (HGA.out.below hbAC (Nat.le_refl _)) (HEA.out.below hbAC (Nat.le_refl _)) aw_end (by omega) (by omega) (by omega) (by omega) 2 aw_lens (by omega) (by omega))
  have HLC := Lib.hid (And.intro l0 l1)
  clear hwC l0 l1 k0 k1 k2
  refine HL2.out.mono ?_
  rintro e wD ⟨hbD, hl⟩
  rcases hl with ⟨_, rfl⟩ | ⟨hi, _⟩
  rotate_left 1
  · rw [aw_i2] at hi; cases hi
  have hzD := hbD.size
  have hbAD : Below wA.heap.size wA wD := hbAC.trans (hbD.mono (by omega))
  clear HL2
  go_wp2_with fail
  obtain ⟨w0, hw0⟩ : ∃ W, W = wD.alloc (.cells #[.slice none 0 0, .slice none 0 0] 51) := ⟨_, rfl⟩
  have hbE : Below wD.heap.size wD w0 := by rw [hw0]; exact (Below.refl _ _).alloc (Nat.le_refl _) _
  rw [← hw0]
  have hzE := hbE.size
  have hbA0 : Below wA.heap.size wA w0 := hbAD.trans (hbE.mono (by omega))
  have hbC0 : Below wC.heap.size wC w0 := hbD.trans (hbE.mono hzD)
  have hbB0 : Below wB.heap.size wB w0 := hbC.trans (hbC0.mono hzC)
  have a0 := (hbA0.cell (p := ⟨w.heap.size + 5, 0, none⟩) (show w.heap.size + 5 < wA.heap.size by omega)).trans HG0.out.1
  have a1 := (hbA0.cell (p := ⟨w.heap.size + 5, 1, none⟩) (show w.heap.size + 5 < wA.heap.size by omega)).trans HG0.out.2.1
  have a2 := (hbA0.cell (p := ⟨w.heap.size + 5, 2, none⟩) (show w.heap.size + 5 < wA.heap.size by omega)).trans HG0.out.2.2
  have a3 := (hbC0.cell (p := ⟨wB.heap.size, 0, none⟩) hlC2).trans HLC.out.1
  have a4 := (hbC0.cell (p := ⟨wB.heap.size, 1, none⟩) hlC2).trans HLC.out.2
  have hG : GrRd w0 w0.heap.size (some ⟨w.heap.size, 0, none⟩) 1 1 (some ⟨w.heap.size + 3, 0, none⟩) 3 3 (some ⟨w.heap.size + 4, 0, none⟩) 3 3 Gaw := (HGA.out.below hbA0 (Nat.le_refl _)).up hbA0.size
  have hE : Sl2 w0 w0.heap.size 1 (some ⟨w.heap.size + 7, 0, none⟩) 1 1 (endS.map bcells) := (HEA.out.below hbA0 (Nat.le_refl _)).up hbA0.size
  have hL1 : Sl w0 w0.heap.size 1 s1 n1 c1 (icells stem) := (HS1.out.below hbB0 (Nat.le_refl _)).up hbB0.size
  have hL2 : Sl w0 w0.heap.size 1 s2 n2 c2 (icells loop) := (HS2.out.below hbB0 (Nat.le_refl _)).up hbB0.size
  have hbw0 : Below w.heap.size w w0 := hb1.trans (hbA0.mono (by omega))
  have HG := Lib.hid hG
  have HE := Lib.hid hE
  have HL1' := Lib.hid hL1
  have HL2' := Lib.hid hL2
  have HBW := Lib.hid hbw0
  obtain ⟨gb, hgb⟩ : ∃ b, b = w.heap.size + 5 := ⟨_, rfl⟩
  obtain ⟨lb, hlb⟩ : ∃ b, b = wB.heap.size := ⟨_, rfl⟩
  rw [← hgb] at a0 a1 a2
  rw [← hlb] at a3 a4
  rw [← hgb, ← hlb]
  have hgl : gb < w0.heap.size := by omega
  have hll : lb < w0.heap.size := by omega
  clear hw0 hgb hlb hG hE hL1 hL2 hbw0
  have hb00 : Below w0.heap.size w0 w0.drew := Below.drew (Below.refl _ _)
  refine wp_region_held_drew (S := fun w' => w'.cell? ⟨gb, 0, none⟩ = some (.slice (some ⟨w.heap.size, 0, none⟩) 1 1) ∧ w'.cell? ⟨gb, 1, none⟩ = some (.slice (some ⟨w.heap.size + 3, 0, none⟩) 3 3) ∧ w'.cell? ⟨gb, 2, none⟩ = some (.slice (some ⟨w.heap.size + 4, 0, none⟩) 3 3) ∧ w'.cell? ⟨lb, 0, none⟩ = some (.slice s1 n1 c1) ∧ w'.cell? ⟨lb, 1, none⟩ = some (.slice s2 n2 c2)) (by kernel_rfl) ⟨a0, a1, a2, a3, a4⟩ (fun hS => ?_)
  refine wpAnyH_takeD (i := 0) (v := ?_) rfl (by kernel_rfl) (by kernel_rfl) (by kernel_rfl) (fun _ _ _ h => h) (Or.inl ⟨by kernel_rfl, ?_⟩) hS ?_
  rotate_left 1
  · (intro w' hSw; (try dsimp only at hSw); go_simp; try (with_reducible rfl))
  try simp only [Act.put, List.setIfInBounds_toArray, List.set_cons_zero, List.set_cons_succ]
  refine wpAnyH_ready (rs := [1, 2]) (by kernel_rfl) (by simp) ?_
  refine (allReadyH_consD (i := 1) rfl (fun K hK => ?_) (allReadyH_consD (i := 2) rfl (fun K hK => ?_) AllReadyH.nil))
  · skip
    go_simp
    refine (ffair_any (some ⟨w.heap.size, 0, none⟩) (some ⟨w.heap.size + 3, 0, none⟩) (some ⟨w.heap.size + 4, 0, none⟩) 1 1 3 3 3 3 Gaw [] none 0 0 [true, true, false] (w0.drew) w0.heap.size (HG.out.below hb00 (Nat.le_refl _)) (sl2_nil _ _) aw_none hb00.size (by omega) 2 aw_lens (by omega) (by omega)).mono ?_
    rintro e W1 ⟨vW1, rfl, hoW1, hqW1, _⟩
    have hbW1 : Below w0.heap.size w0 W1 := hb00.trans (hqW1.mono hb00.size)
    have hzW1 := hbW1.size
    obtain ⟨AF1, cF1, rfl, F1W1⟩ := own_sl hoW1
    have kW1_0 := (hbW1.cell (p := ⟨gb, 0, none⟩) hgl).trans a0
    have kW1_1 := (hbW1.cell (p := ⟨gb, 1, none⟩) hgl).trans a1
    have kW1_2 := (hbW1.cell (p := ⟨gb, 2, none⟩) hgl).trans a2
    have kW1_3 := (hbW1.cell (p := ⟨lb, 0, none⟩) hll).trans a3
    have kW1_4 := (hbW1.cell (p := ⟨lb, 1, none⟩) hll).trans a4
    go_wp2_with fail
    refine hK.out _ _ ⟨kW1_0, kW1_1, kW1_2, kW1_3, kW1_4⟩ (fun hS => ?_)
    clear hK
    try simp only [Act.put, List.setIfInBounds_toArray, List.set_cons_zero, List.set_cons_succ]
    refine wpAnyH_oneD (i := 2) rfl (by kernel_rfl) (fun K hK => ?_)
    go_simp
    obtain ⟨W2, hwW2⟩ : ∃ W, W = (W1).alloc (.cells #[.bool true, .bool true, .bool false] 4) := ⟨_, rfl⟩
    have hqW2 : Below (W1).heap.size (W1) W2 := by rw [hwW2]; exact (Below.refl _ _).alloc (Nat.le_refl _) _
    have hnW2 : W2.heap[(W1).heap.size]? = some (.cells #[.bool true, .bool true, .bool false] 4) := by rw [hwW2]; exact heap_alloc_new _ _
    have hltW2 : (W1).heap.size < W2.heap.size := by rw [hwW2]; simp
    rw [← hwW2]
    clear hwW2
    have hbW2 : Below w0.heap.size w0 W2 := hbW1.trans (hqW2.mono hbW1.size)
    have hzW2 := hbW2.size
    have F1W2 := (F1W1.below hqW2 (Nat.le_refl _)).up hqW2.size
    have L1W2 : Sl W2 W2.heap.size 1 (some ⟨W1.heap.size, 0, none⟩) 3 3 ([true, true, false].map .bool) := sl_blk (T := 4) (cs := #[.bool true, .bool true, .bool false]) hnW2 rfl (by decide) (by decide) hltW2
    have kW2_0 := (hbW2.cell (p := ⟨gb, 0, none⟩) hgl).trans a0
    have kW2_1 := (hbW2.cell (p := ⟨gb, 1, none⟩) hgl).trans a1
    have kW2_2 := (hbW2.cell (p := ⟨gb, 2, none⟩) hgl).trans a2
    have kW2_3 := (hbW2.cell (p := ⟨lb, 0, none⟩) hll).trans a3
    have kW2_4 := (hbW2.cell (p := ⟨lb, 1, none⟩) hll).trans a4
    refine hK.out _ _ ⟨kW2_0, kW2_1, kW2_2, kW2_3, kW2_4⟩ (fun hS => ?_)
    clear hK
    try simp only [Act.put, List.setIfInBounds_toArray, List.set_cons_zero, List.set_cons_succ]
    refine wpAnyH_oneD (i := 3) rfl (by kernel_rfl) (fun K hK => ?_)
    go_simp
    refine (boolsF_any AF1 (some ⟨W1.heap.size, 0, none⟩) 3 cF1 3 3 [true, true, false] [true, true, false] (W2) _ _ F1W2 L1W2 rfl rfl (by omega)).mono ?_
    rw [show decide ([true, true, false] = [true, true, false]) = true from by decide]
    rintro e _ ⟨rfl, ndW3, rfl⟩
    obtain ⟨W3, hwW3⟩ : ∃ W, W = (W2).drewN ndW3 := ⟨_, rfl⟩
    have hqW3 := below_len hwW3
    rw [← hwW3]
    clear hwW3
    have hbW3 : Below w0.heap.size w0 W3 := hbW2.trans (hqW3.mono hbW2.size)
    have hzW3 := hbW3.size
    have F1W3 := (F1W2.below hqW3 (Nat.le_refl _)).up hqW3.size
    have L1W3 := (L1W2.below hqW3 (Nat.le_refl _)).up hqW3.size
    have kW3_0 := (hbW3.cell (p := ⟨gb, 0, none⟩) hgl).trans a0
    have kW3_1 := (hbW3.cell (p := ⟨gb, 1, none⟩) hgl).trans a1
    have kW3_2 := (hbW3.cell (p := ⟨gb, 2, none⟩) hgl).trans a2
    have kW3_3 := (hbW3.cell (p := ⟨lb, 0, none⟩) hll).trans a3
    have kW3_4 := (hbW3.cell (p := ⟨lb, 1, none⟩) hll).trans a4
    go_wp2_with fail
    refine hK.out _ _ ⟨kW3_0, kW3_1, kW3_2, kW3_3, kW3_4⟩ (fun hS => ?_)
    clear hK
    try simp only [Act.put, List.setIfInBounds_toArray, List.set_cons_zero, List.set_cons_succ]
    refine wpAnyH_takeD (i := 4) (v := ?_) rfl (by kernel_rfl) (by kernel_rfl) (by kernel_rfl) (fun _ _ _ h => h) (Or.inl ⟨by kernel_rfl, ?_⟩) hS ?_
    rotate_left 1
    · (intro w' hSw; (try dsimp only at hSw); go_simp; try (with_reducible rfl))
    try simp only [Act.put, List.setIfInBounds_toArray, List.set_cons_zero, List.set_cons_succ]
    refine wpAnyH_takeD (i := 5) (v := ?_) rfl (by kernel_rfl) (by kernel_rfl) (by kernel_rfl) (fun _ _ _ h => h) (Or.inl ⟨by kernel_rfl, ?_⟩) hS ?_
    rotate_left 1
    · (intro w' hSw; (try dsimp only at hSw); go_simp; try (with_reducible rfl))
    try simp only [Act.put, List.setIfInBounds_toArray, List.set_cons_zero, List.set_cons_succ]
    refine wpAnyH_takeD (i := 6) (v := ?_) rfl (by kernel_rfl) (by kernel_rfl) (by kernel_rfl) (fun _ _ _ h => h) (Or.inl ⟨by kernel_rfl, ?_⟩) hS ?_
    rotate_left 1
    · (intro w' hSw; (try dsimp only at hSw); go_simp; try (with_reducible rfl))
    try simp only [Act.put, List.setIfInBounds_toArray, List.set_cons_zero, List.set_cons_succ]
    refine wpAnyH_ready (rs := [7, 8]) (by kernel_rfl) (by simp) ?_
    refine (allReadyH_consD (i := 7) rfl (fun K hK => ?_) (allReadyH_consD (i := 8) rfl (fun K hK => ?_) AllReadyH.nil))
    · skip
      rw [if_pos (by kernel_rfl)]
      go_simp
      refine (ffair_any (some ⟨w.heap.size, 0, none⟩) (some ⟨w.heap.size + 3, 0, none⟩) (some ⟨w.heap.size + 4, 0, none⟩) 1 1 3 3 3 3 Gaw endS (some ⟨w.heap.size + 7, 0, none⟩) 1 1 [false, false, false] (W3) w0.heap.size (HG.out.below hbW3 (Nat.le_refl _)) (HE.out.below hbW3 (Nat.le_refl _)) aw_end hbW3.size (by omega) 2 aw_lens (by omega) (by omega)).mono ?_
      rintro e W4 ⟨vW4, rfl, hoW4, hqW4, _⟩
      have hbW4 : Below w0.heap.size w0 W4 := hbW3.trans (hqW4.mono hbW3.size)
      have hzW4 := hbW4.size
      have F1W4 := (F1W3.below hqW4 (Nat.le_refl _)).up hqW4.size
      have L1W4 := (L1W3.below hqW4 (Nat.le_refl _)).up hqW4.size
      obtain ⟨AF2, cF2, rfl, F2W4⟩ := own_sl hoW4
      have kW4_0 := (hbW4.cell (p := ⟨gb, 0, none⟩) hgl).trans a0
      have kW4_1 := (hbW4.cell (p := ⟨gb, 1, none⟩) hgl).trans a1
      have kW4_2 := (hbW4.cell (p := ⟨gb, 2, none⟩) hgl).trans a2
      have kW4_3 := (hbW4.cell (p := ⟨lb, 0, none⟩) hll).trans a3
      have kW4_4 := (hbW4.cell (p := ⟨lb, 1, none⟩) hll).trans a4
      go_wp2_with fail
      refine hK.out _ _ ⟨kW4_0, kW4_1, kW4_2, kW4_3, kW4_4⟩ (fun hS => ?_)
      clear hK
      try simp only [Act.put, List.setIfInBounds_toArray, List.set_cons_zero, List.set_cons_succ]
      refine wpAnyH_oneD (i := 8) rfl (by kernel_rfl) (fun K hK => ?_)
      rw [if_pos (by kernel_rfl)]
      go_simp
      obtain ⟨W5, hwW5⟩ : ∃ W, W = (W4).alloc (.cells (madeCells #[.bool false] 3) 4) := ⟨_, rfl⟩
      have hqW5 : Below (W4).heap.size (W4) W5 := by rw [hwW5]; exact (Below.refl _ _).alloc (Nat.le_refl _) _
      have hnW5 : W5.heap[(W4).heap.size]? = some (.cells (madeCells #[.bool false] 3) 4) := by rw [hwW5]; exact heap_alloc_new _ _
      have hltW5 : (W4).heap.size < W5.heap.size := by rw [hwW5]; simp
      rw [← hwW5]
      clear hwW5
      have hbW5 : Below w0.heap.size w0 W5 := hbW4.trans (hqW5.mono hbW4.size)
      have hzW5 := hbW5.size
      have F1W5 := (F1W4.below hqW5 (Nat.le_refl _)).up hqW5.size
      have L1W5 := (L1W4.below hqW5 (Nat.le_refl _)).up hqW5.size
      have F2W5 := (F2W4.below hqW5 (Nat.le_refl _)).up hqW5.size
      have L2W5 : Sl W5 W5.heap.size 1 (some ⟨W4.heap.size, 0, none⟩) 3 3 ([false, false, false].map .bool) := sl_blk (T := 4) hnW5 (toList_madeCells_one _ _) (by decide) (by decide) hltW5
      have kW5_0 := (hbW5.cell (p := ⟨gb, 0, none⟩) hgl).trans a0
      have kW5_1 := (hbW5.cell (p := ⟨gb, 1, none⟩) hgl).trans a1
      have kW5_2 := (hbW5.cell (p := ⟨gb, 2, none⟩) hgl).trans a2
      have kW5_3 := (hbW5.cell (p := ⟨lb, 0, none⟩) hll).trans a3
      have kW5_4 := (hbW5.cell (p := ⟨lb, 1, none⟩) hll).trans a4
      refine hK.out _ _ ⟨kW5_0, kW5_1, kW5_2, kW5_3, kW5_4⟩ (fun hS => ?_)
      clear hK
      try simp only [Act.put, List.setIfInBounds_toArray, List.set_cons_zero, List.set_cons_succ]
      refine wpAnyH_oneD (i := 9) rfl (by kernel_rfl) (fun K hK => ?_)
      rw [if_pos (by kernel_rfl)]
      go_simp
      refine (boolsF_any AF2 (some ⟨W4.heap.size, 0, none⟩) 3 cF2 3 3 [false, false, false] [false, false, false] (W5) _ _ F2W5 L2W5 rfl rfl (by omega)).mono ?_
      rw [show decide ([false, false, false] = [false, false, false]) = true from by decide]
      rintro e _ ⟨rfl, ndW6, rfl⟩
      obtain ⟨W6, hwW6⟩ : ∃ W, W = (W5).drewN ndW6 := ⟨_, rfl⟩
      have hqW6 := below_len hwW6
      rw [← hwW6]
      clear hwW6
      have hbW6 : Below w0.heap.size w0 W6 := hbW5.trans (hqW6.mono hbW5.size)
      have hzW6 := hbW6.size
      have F1W6 := (F1W5.below hqW6 (Nat.le_refl _)).up hqW6.size
      have L1W6 := (L1W5.below hqW6 (Nat.le_refl _)).up hqW6.size
      have F2W6 := (F2W5.below hqW6 (Nat.le_refl _)).up hqW6.size
      have L2W6 := (L2W5.below hqW6 (Nat.le_refl _)).up hqW6.size
      have kW6_0 := (hbW6.cell (p := ⟨gb, 0, none⟩) hgl).trans a0
      have kW6_1 := (hbW6.cell (p := ⟨gb, 1, none⟩) hgl).trans a1
      have kW6_2 := (hbW6.cell (p := ⟨gb, 2, none⟩) hgl).trans a2
      have kW6_3 := (hbW6.cell (p := ⟨lb, 0, none⟩) hll).trans a3
      have kW6_4 := (hbW6.cell (p := ⟨lb, 1, none⟩) hll).trans a4
      go_wp2_with fail
      refine hK.out _ _ ⟨kW6_0, kW6_1, kW6_2, kW6_3, kW6_4⟩ (fun hS => ?_)
      clear hK
      try simp only [Act.put, List.setIfInBounds_toArray, List.set_cons_zero, List.set_cons_succ]
      refine wpAnyH_takeD (i := 10) (v := ?_) rfl (by kernel_rfl) (by kernel_rfl) (by kernel_rfl) (fun _ _ _ h => h) (Or.inl ⟨by kernel_rfl, ?_⟩) hS ?_
      rotate_left 1
      · (intro w' hSw; (try dsimp only at hSw); go_simp; try (with_reducible rfl))
      try simp only [Act.put, List.setIfInBounds_toArray, List.set_cons_zero, List.set_cons_succ]
      refine wpAnyH_takeD (i := 11) (v := ?_) rfl (by kernel_rfl) (by kernel_rfl) (by kernel_rfl) (fun _ _ _ h => h) (Or.inl ⟨by kernel_rfl, ?_⟩) hS ?_
      rotate_left 1
      · (intro w' hSw; (try dsimp only at hSw); go_simp; try (with_reducible rfl))
      try simp only [Act.put, List.setIfInBounds_toArray, List.set_cons_zero, List.set_cons_succ]
      refine wpAnyH_takeD (i := 12) (v := ?_) rfl (by kernel_rfl) (by kernel_rfl) (by kernel_rfl) (fun _ _ _ h => h) (Or.inl ⟨by kernel_rfl, ?_⟩) hS ?_
      rotate_left 1
      · (intro w' hSw; (try dsimp only at hSw); go_simp; try (with_reducible rfl))
      try simp only [Act.put, List.setIfInBounds_toArray, List.set_cons_zero, List.set_cons_succ]
      refine wpAnyH_oneD (i := 13) rfl (by kernel_rfl) (fun K hK => ?_)
      rw [if_pos (by kernel_rfl)]
      go_simp
      refine (fsome_of (some ⟨w.heap.size, 0, none⟩) (some ⟨w.heap.size + 3, 0, none⟩) (some ⟨w.heap.size + 4, 0, none⟩) 1 1 3 3 3 3 Gaw [true, true, false] (.slice none 0 0) (W6) w0.heap.size (HG.out.below hbW6 (Nat.le_refl _)) rfl hbW6.size (by omega) (fun W hW => ffair_any (some ⟨w.heap.size, 0, none⟩) (some ⟨w.heap.size + 3, 0, none⟩) (some ⟨w.heap.size + 4, 0, none⟩) 1 1 3 3 3 3 Gaw [] none 0 0 [true, true, false] W w0.heap.size ((HG.out.below hbW6 (Nat.le_refl _)).below hW (by have := hbW6.size; omega)) (sl2_nil _ _) aw_none (Nat.le_trans hbW6.size hW.size) (by omega) 2 aw_lens (by omega) (by omega))).mono ?_
      rw [aw_i1]
      rintro e W7 ⟨rfl, hqW7⟩
      have hbW7 : Below w0.heap.size w0 W7 := hbW6.trans (hqW7.mono hbW6.size)
      have hzW7 := hbW7.size
      have F1W7 := (F1W6.below hqW7 (Nat.le_refl _)).up hqW7.size
      have L1W7 := (L1W6.below hqW7 (Nat.le_refl _)).up hqW7.size
      have F2W7 := (F2W6.below hqW7 (Nat.le_refl _)).up hqW7.size
      have L2W7 := (L2W6.below hqW7 (Nat.le_refl _)).up hqW7.size
      have kW7_0 := (hbW7.cell (p := ⟨gb, 0, none⟩) hgl).trans a0
      have kW7_1 := (hbW7.cell (p := ⟨gb, 1, none⟩) hgl).trans a1
      have kW7_2 := (hbW7.cell (p := ⟨gb, 2, none⟩) hgl).trans a2
      have kW7_3 := (hbW7.cell (p := ⟨lb, 0, none⟩) hll).trans a3
      have kW7_4 := (hbW7.cell (p := ⟨lb, 1, none⟩) hll).trans a4
      go_wp2_with fail
      refine hK.out _ _ ⟨kW7_0, kW7_1, kW7_2, kW7_3, kW7_4⟩ (fun hS => ?_)
      clear hK
      try simp only [Act.put, List.setIfInBounds_toArray, List.set_cons_zero, List.set_cons_succ]
      refine wpAnyH_takeD (i := 14) (v := ?_) rfl (by kernel_rfl) (by kernel_rfl) (by kernel_rfl) (fun _ _ _ h => h) (Or.inl ⟨by kernel_rfl, ?_⟩) hS ?_
      rotate_left 1
      · (intro w' hSw; (try dsimp only at hSw); go_simp; try (with_reducible rfl))
      try simp only [Act.put, List.setIfInBounds_toArray, List.set_cons_zero, List.set_cons_succ]
      refine wpAnyH_takeD (i := 15) (v := ?_) rfl (by kernel_rfl) (by kernel_rfl) (by kernel_rfl) (fun _ _ _ h => h) (Or.inl ⟨by kernel_rfl, ?_⟩) hS ?_
      rotate_left 1
      · (intro w' hSw; (try dsimp only at hSw); go_simp; try (with_reducible rfl))
      try simp only [Act.put, List.setIfInBounds_toArray, List.set_cons_zero, List.set_cons_succ]
      refine wpAnyH_takeD (i := 16) (v := ?_) rfl (by kernel_rfl) (by kernel_rfl) (by kernel_rfl) (fun _ _ _ h => h) (Or.inl ⟨by kernel_rfl, ?_⟩) hS ?_
      rotate_left 1
      · (intro w' hSw; (try dsimp only at hSw); go_simp; try (with_reducible rfl))
      try simp only [Act.put, List.setIfInBounds_toArray, List.set_cons_zero, List.set_cons_succ]
      refine wpAnyH_takeD (i := 17) (v := ?_) rfl (by kernel_rfl) (by kernel_rfl) (by kernel_rfl) (fun _ _ _ h => h) (Or.inl ⟨by kernel_rfl, ?_⟩) hS ?_
      rotate_left 1
      · (intro w' hSw; (try dsimp only at hSw); go_simp; try (with_reducible rfl))
      try simp only [Act.put, List.setIfInBounds_toArray, List.set_cons_zero, List.set_cons_succ]
      refine wpAnyH_oneD (i := 18) rfl (by kernel_rfl) (fun K hK => ?_)
      rw [if_pos (by kernel_rfl)]
      go_simp
      refine (fsome_of (some ⟨w.heap.size, 0, none⟩) (some ⟨w.heap.size + 3, 0, none⟩) (some ⟨w.heap.size + 4, 0, none⟩) 1 1 3 3 3 3 Gaw [false, false, false] (.slice (some ⟨w.heap.size + 7, 0, none⟩) 1 1) (W7) w0.heap.size (HG.out.below hbW7 (Nat.le_refl _)) rfl hbW7.size (by omega) (fun W hW => ffair_any (some ⟨w.heap.size, 0, none⟩) (some ⟨w.heap.size + 3, 0, none⟩) (some ⟨w.heap.size + 4, 0, none⟩) 1 1 3 3 3 3 Gaw endS (some ⟨w.heap.size + 7, 0, none⟩) 1 1 [false, false, false] W w0.heap.size ((HG.out.below hbW7 (Nat.le_refl _)).below hW (by have := hbW7.size; omega)) ((HE.out.below hbW7 (Nat.le_refl _)).below hW (by have := hbW7.size; omega)) aw_end (Nat.le_trans hbW7.size hW.size) (by omega) 2 aw_lens (by omega) (by omega))).mono ?_
      rw [aw_i2]
      rintro e W8 ⟨rfl, hqW8⟩
      have hbW8 : Below w0.heap.size w0 W8 := hbW7.trans (hqW8.mono hbW7.size)
      have hzW8 := hbW8.size
      have F1W8 := (F1W7.below hqW8 (Nat.le_refl _)).up hqW8.size
      have L1W8 := (L1W7.below hqW8 (Nat.le_refl _)).up hqW8.size
      have F2W8 := (F2W7.below hqW8 (Nat.le_refl _)).up hqW8.size
      have L2W8 := (L2W7.below hqW8 (Nat.le_refl _)).up hqW8.size
      have kW8_0 := (hbW8.cell (p := ⟨gb, 0, none⟩) hgl).trans a0
      have kW8_1 := (hbW8.cell (p := ⟨gb, 1, none⟩) hgl).trans a1
      have kW8_2 := (hbW8.cell (p := ⟨gb, 2, none⟩) hgl).trans a2
      have kW8_3 := (hbW8.cell (p := ⟨lb, 0, none⟩) hll).trans a3
      have kW8_4 := (hbW8.cell (p := ⟨lb, 1, none⟩) hll).trans a4
      go_wp2_with fail
      refine hK.out _ _ ⟨kW8_0, kW8_1, kW8_2, kW8_3, kW8_4⟩ (fun hS => ?_)
      clear hK
      try simp only [Act.put, List.setIfInBounds_toArray, List.set_cons_zero, List.set_cons_succ]
      refine wpAnyH_takeD (i := 19) (v := ?_) rfl (by kernel_rfl) (by kernel_rfl) (by kernel_rfl) (fun _ _ _ h => h) (Or.inl ⟨by kernel_rfl, ?_⟩) hS ?_
      rotate_left 1
      · (intro w' hSw; (try dsimp only at hSw); go_simp; try (with_reducible rfl))
      try simp only [Act.put, List.setIfInBounds_toArray, List.set_cons_zero, List.set_cons_succ]
      refine wpAnyH_takeD (i := 20) (v := ?_) rfl (by kernel_rfl) (by kernel_rfl) (by kernel_rfl) (fun _ _ _ h => h) (Or.inl ⟨by kernel_rfl, ?_⟩) hS ?_
      rotate_left 1
      · (intro w' hSw; (try dsimp only at hSw); go_simp; try (with_reducible rfl))
      try simp only [Act.put, List.setIfInBounds_toArray, List.set_cons_zero, List.set_cons_succ]
      refine wpAnyH_takeD (i := 21) (v := ?_) rfl (by kernel_rfl) (by kernel_rfl) (by kernel_rfl) (fun _ _ _ h => h) (Or.inl ⟨by kernel_rfl, ?_⟩) hS ?_
      rotate_left 1
      · (intro w' hSw; (try dsimp only at hSw); go_simp; try (with_reducible rfl))
      try simp only [Act.put, List.setIfInBounds_toArray, List.set_cons_zero, List.set_cons_succ]
      refine wpAnyH_takeD (i := 22) (v := ?_) rfl (by kernel_rfl) (by kernel_rfl) (by kernel_rfl) (fun _ _ _ h => h) (Or.inl ⟨by kernel_rfl, ?_⟩) hS ?_
      rotate_left 1
      · (intro w' hSw; (try dsimp only at hSw); go_simp; try (with_reducible rfl))
      try simp only [Act.put, List.setIfInBounds_toArray, List.set_cons_zero, List.set_cons_succ]
      refine wpAnyH_takeD (i := 23) (v := ?_) rfl (by kernel_rfl) (by kernel_rfl) (by kernel_rfl) (fun _ _ _ h => h) (Or.inl ⟨by kernel_rfl, ?_⟩) hS ?_
      rotate_left 1
      · (intro w' hSw; (try dsimp only at hSw); go_simp; try (with_reducible rfl))
      try simp only [Act.put, List.setIfInBounds_toArray, List.set_cons_zero, List.set_cons_succ]
      refine wpAnyH_takeD (i := 24) (v := ?_) rfl (by kernel_rfl) (by kernel_rfl) (by kernel_rfl) (fun _ _ _ h => h) (Or.inl ⟨by kernel_rfl, ?_⟩) hS ?_
      rotate_left 1
      · (intro w' hSw; (try dsimp only at hSw); go_simp; try (with_reducible rfl))
      try simp only [Act.put, List.setIfInBounds_toArray, List.set_cons_zero, List.set_cons_succ]
      refine wpAnyH_takeD (i := 25) (v := ?_) rfl (by kernel_rfl) (by kernel_rfl) (by kernel_rfl) (fun _ _ _ h => h) (Or.inl ⟨by kernel_rfl, ?_⟩) hS ?_
      rotate_left 1
      · (intro w' hSw; (try dsimp only at hSw); go_simp; try (with_reducible rfl))
      try simp only [Act.put, List.setIfInBounds_toArray, List.set_cons_zero, List.set_cons_succ]
      refine wpAnyH_takeD (i := 26) (v := ?_) rfl (by kernel_rfl) (by kernel_rfl) (by kernel_rfl) (fun _ _ _ h => h) (Or.inl ⟨by kernel_rfl, ?_⟩) hS ?_
      rotate_left 1
      · (intro w' hSw; (try dsimp only at hSw); go_simp; try (with_reducible rfl))
      try simp only [Act.put, List.setIfInBounds_toArray, List.set_cons_zero, List.set_cons_succ]
      refine wpAnyH_oneD (i := 27) rfl (by kernel_rfl) (fun K hK => ?_)
      rw [if_pos (by kernel_rfl)]
      go_simp
      refine (ris_any (some ⟨w.heap.size, 0, none⟩) (some ⟨w.heap.size + 3, 0, none⟩) (some ⟨w.heap.size + 4, 0, none⟩) 1 1 3 3 3 3 Gaw [] stem loop none 0 0 s1 s2 n1 c1 n2 c2 (W8) w0.heap.size (HG.out.below hbW8 (Nat.le_refl _)) (sl2_nil _ _) (HL1'.out.below hbW8 (Nat.le_refl _)) (HL2'.out.below hbW8 (Nat.le_refl _)) hbW8.size (by omega) (by omega) (fun l hl => by have := aw_lens l hl; omega) (by omega) (by omega) (by omega)).mono ?_
      rw [HIS.out]
      rintro e W9 ⟨rfl, hqW9⟩
      have hbW9 : Below w0.heap.size w0 W9 := hbW8.trans (hqW9.mono hbW8.size)
      have hzW9 := hbW9.size
      have F1W9 := (F1W8.below hqW9 (Nat.le_refl _)).up hqW9.size
      have L1W9 := (L1W8.below hqW9 (Nat.le_refl _)).up hqW9.size
      have F2W9 := (F2W8.below hqW9 (Nat.le_refl _)).up hqW9.size
      have L2W9 := (L2W8.below hqW9 (Nat.le_refl _)).up hqW9.size
      have kW9_0 := (hbW9.cell (p := ⟨gb, 0, none⟩) hgl).trans a0
      have kW9_1 := (hbW9.cell (p := ⟨gb, 1, none⟩) hgl).trans a1
      have kW9_2 := (hbW9.cell (p := ⟨gb, 2, none⟩) hgl).trans a2
      have kW9_3 := (hbW9.cell (p := ⟨lb, 0, none⟩) hll).trans a3
      have kW9_4 := (hbW9.cell (p := ⟨lb, 1, none⟩) hll).trans a4
      go_wp2_with fail
      refine hK.out _ _ ⟨kW9_0, kW9_1, kW9_2, kW9_3, kW9_4⟩ (fun hS => ?_)
      clear hK
      try simp only [Act.put, List.setIfInBounds_toArray, List.set_cons_zero, List.set_cons_succ]
      refine wpAnyH_takeD (i := 28) (v := ?_) rfl (by kernel_rfl) (by kernel_rfl) (by kernel_rfl) (fun _ _ _ h => h) (Or.inl ⟨by kernel_rfl, ?_⟩) hS ?_
      rotate_left 1
      · (intro w' hSw; (try dsimp only at hSw); go_simp; try (with_reducible rfl))
      try simp only [Act.put, List.setIfInBounds_toArray, List.set_cons_zero, List.set_cons_succ]
      refine wpAnyH_takeD (i := 29) (v := ?_) rfl (by kernel_rfl) (by kernel_rfl) (by kernel_rfl) (fun _ _ _ h => h) (Or.inl ⟨by kernel_rfl, ?_⟩) hS ?_
      rotate_left 1
      · (intro w' hSw; (try dsimp only at hSw); go_simp; try (with_reducible rfl))
      try simp only [Act.put, List.setIfInBounds_toArray, List.set_cons_zero, List.set_cons_succ]
      refine wpAnyH_takeD (i := 30) (v := ?_) rfl (by kernel_rfl) (by kernel_rfl) (by kernel_rfl) (fun _ _ _ h => h) (Or.inl ⟨by kernel_rfl, ?_⟩) hS ?_
      rotate_left 1
      · (intro w' hSw; (try dsimp only at hSw); go_simp; try (with_reducible rfl))
      try simp only [Act.put, List.setIfInBounds_toArray, List.set_cons_zero, List.set_cons_succ]
      refine wpAnyH_takeD (i := 31) (v := ?_) rfl (by kernel_rfl) (by kernel_rfl) (by kernel_rfl) (fun _ _ _ h => h) (Or.inl ⟨by kernel_rfl, ?_⟩) hS ?_
      rotate_left 1
      · (intro w' hSw; (try dsimp only at hSw); go_simp; try (with_reducible rfl))
      try simp only [Act.put, List.setIfInBounds_toArray, List.set_cons_zero, List.set_cons_succ]
      refine wpAnyH_takeD (i := 32) (v := ?_) rfl (by kernel_rfl) (by kernel_rfl) (by kernel_rfl) (fun _ _ _ h => h) (Or.inl ⟨by kernel_rfl, ?_⟩) hS ?_
      rotate_left 1
      · (intro w' hSw; (try dsimp only at hSw); go_simp; try (with_reducible rfl))
      try simp only [Act.put, List.setIfInBounds_toArray, List.set_cons_zero, List.set_cons_succ]
      refine wpAnyH_takeD (i := 33) (v := ?_) rfl (by kernel_rfl) (by kernel_rfl) (by kernel_rfl) (fun _ _ _ h => h) (Or.inl ⟨by kernel_rfl, ?_⟩) hS ?_
      rotate_left 1
      · (intro w' hSw; (try dsimp only at hSw); go_simp; try (with_reducible rfl))
      try simp only [Act.put, List.setIfInBounds_toArray, List.set_cons_zero, List.set_cons_succ]
      refine wpAnyH_takeD (i := 34) (v := ?_) rfl (by kernel_rfl) (by kernel_rfl) (by kernel_rfl) (fun _ _ _ h => h) (Or.inl ⟨by kernel_rfl, ?_⟩) hS ?_
      rotate_left 1
      · (intro w' hSw; (try dsimp only at hSw); go_simp; try (with_reducible rfl))
      try simp only [Act.put, List.setIfInBounds_toArray, List.set_cons_zero, List.set_cons_succ]
      refine wpAnyH_oneD (i := 35) rfl (by kernel_rfl) (fun K hK => ?_)
      rw [if_pos (by kernel_rfl)]
      go_simp
      obtain ⟨W10, hwW10⟩ : ∃ W, W = (W9).alloc (.cells #[.int .i64 0, .int .i64 1] 3) := ⟨_, rfl⟩
      have hqW10 : Below (W9).heap.size (W9) W10 := by rw [hwW10]; exact (Below.refl _ _).alloc (Nat.le_refl _) _
      have hnW10 : W10.heap[(W9).heap.size]? = some (.cells #[.int .i64 0, .int .i64 1] 3) := by rw [hwW10]; exact heap_alloc_new _ _
      have hltW10 : (W9).heap.size < W10.heap.size := by rw [hwW10]; simp
      rw [← hwW10]
      clear hwW10
      have hbW10 : Below w0.heap.size w0 W10 := hbW9.trans (hqW10.mono hbW9.size)
      have hzW10 := hbW10.size
      have F1W10 := (F1W9.below hqW10 (Nat.le_refl _)).up hqW10.size
      have L1W10 := (L1W9.below hqW10 (Nat.le_refl _)).up hqW10.size
      have F2W10 := (F2W9.below hqW10 (Nat.le_refl _)).up hqW10.size
      have L2W10 := (L2W9.below hqW10 (Nat.le_refl _)).up hqW10.size
      have L3W10 : Sl W10 W10.heap.size 1 (some ⟨W9.heap.size, 0, none⟩) 2 2 (icells [0, 1]) := sl_blk (T := 3) (cs := #[.int .i64 0, .int .i64 1]) hnW10 rfl (by decide) (by decide) hltW10
      have kW10_0 := (hbW10.cell (p := ⟨gb, 0, none⟩) hgl).trans a0
      have kW10_1 := (hbW10.cell (p := ⟨gb, 1, none⟩) hgl).trans a1
      have kW10_2 := (hbW10.cell (p := ⟨gb, 2, none⟩) hgl).trans a2
      have kW10_3 := (hbW10.cell (p := ⟨lb, 0, none⟩) hll).trans a3
      have kW10_4 := (hbW10.cell (p := ⟨lb, 1, none⟩) hll).trans a4
      refine hK.out _ _ ⟨kW10_0, kW10_1, kW10_2, kW10_3, kW10_4⟩ (fun hS => ?_)
      clear hK
      try simp only [Act.put, List.setIfInBounds_toArray, List.set_cons_zero, List.set_cons_succ]
      refine wpAnyH_takeD (i := 36) (v := ?_) rfl (by kernel_rfl) (by kernel_rfl) (by kernel_rfl) (fun _ _ _ h => h) (Or.inl ⟨by kernel_rfl, ?_⟩) hS ?_
      rotate_left 1
      · (intro w' hSw; (try dsimp only at hSw); go_simp; try (with_reducible rfl))
      try simp only [Act.put, List.setIfInBounds_toArray, List.set_cons_zero, List.set_cons_succ]
      refine wpAnyH_oneD (i := 37) rfl (by kernel_rfl) (fun K hK => ?_)
      rw [if_pos (by kernel_rfl)]
      go_simp
      refine (fis_any (some ⟨w.heap.size, 0, none⟩) (some ⟨w.heap.size + 3, 0, none⟩) (some ⟨w.heap.size + 4, 0, none⟩) 1 1 3 3 3 3 Gaw [] [] [0, 1] none 0 0 none (some ⟨W9.heap.size, 0, none⟩) 0 0 2 2 (W10) (W10).heap.size ((HG.out.below hbW10 (Nat.le_refl _)).up hbW10.size) (sl2_nil _ _) (Sl.none_ _ _ _) L3W10 (Nat.le_refl _) (by omega) (by omega) (fun l hl => by have := aw_lens l hl; omega) (by omega) (by omega) (by omega)).mono ?_
      rw [aw_is1]
      rintro e W11 ⟨rfl, hqW11⟩
      have hbW11 : Below w0.heap.size w0 W11 := hbW10.trans (hqW11.mono hbW10.size)
      have hzW11 := hbW11.size
      have F1W11 := (F1W10.below hqW11 (Nat.le_refl _)).up hqW11.size
      have L1W11 := (L1W10.below hqW11 (Nat.le_refl _)).up hqW11.size
      have F2W11 := (F2W10.below hqW11 (Nat.le_refl _)).up hqW11.size
      have L2W11 := (L2W10.below hqW11 (Nat.le_refl _)).up hqW11.size
      have L3W11 := (L3W10.below hqW11 (Nat.le_refl _)).up hqW11.size
      have kW11_0 := (hbW11.cell (p := ⟨gb, 0, none⟩) hgl).trans a0
      have kW11_1 := (hbW11.cell (p := ⟨gb, 1, none⟩) hgl).trans a1
      have kW11_2 := (hbW11.cell (p := ⟨gb, 2, none⟩) hgl).trans a2
      have kW11_3 := (hbW11.cell (p := ⟨lb, 0, none⟩) hll).trans a3
      have kW11_4 := (hbW11.cell (p := ⟨lb, 1, none⟩) hll).trans a4
      go_wp2_with fail
      refine hK.out _ _ ⟨kW11_0, kW11_1, kW11_2, kW11_3, kW11_4⟩ (fun hS => ?_)
      clear hK
      try simp only [Act.put, List.setIfInBounds_toArray, List.set_cons_zero, List.set_cons_succ]
      refine wpAnyH_takeD (i := 38) (v := ?_) rfl (by kernel_rfl) (by kernel_rfl) (by kernel_rfl) (fun _ _ _ h => h) (Or.inl ⟨by kernel_rfl, ?_⟩) hS ?_
      rotate_left 1
      · (intro w' hSw; (try dsimp only at hSw); go_simp; try (with_reducible rfl))
      try simp only [Act.put, List.setIfInBounds_toArray, List.set_cons_zero, List.set_cons_succ]
      refine wpAnyH_takeD (i := 39) (v := ?_) rfl (by kernel_rfl) (by kernel_rfl) (by kernel_rfl) (fun _ _ _ h => h) (Or.inl ⟨by kernel_rfl, ?_⟩) hS ?_
      rotate_left 1
      · (intro w' hSw; (try dsimp only at hSw); go_simp; try (with_reducible rfl))
      try simp only [Act.put, List.setIfInBounds_toArray, List.set_cons_zero, List.set_cons_succ]
      refine wpAnyH_takeD (i := 40) (v := ?_) rfl (by kernel_rfl) (by kernel_rfl) (by kernel_rfl) (fun _ _ _ h => h) (Or.inl ⟨by kernel_rfl, ?_⟩) hS ?_
      rotate_left 1
      · (intro w' hSw; (try dsimp only at hSw); go_simp; try (with_reducible rfl))
      try simp only [Act.put, List.setIfInBounds_toArray, List.set_cons_zero, List.set_cons_succ]
      refine wpAnyH_oneD (i := 41) rfl (by kernel_rfl) (fun K hK => ?_)
      rw [if_pos (by kernel_rfl)]
      go_simp
      obtain ⟨W12, hwW12⟩ : ∃ W, W = (W11).alloc (.cells #[.int .i64 0, .int .i64 2] 3) := ⟨_, rfl⟩
      have hqW12 : Below (W11).heap.size (W11) W12 := by rw [hwW12]; exact (Below.refl _ _).alloc (Nat.le_refl _) _
      have hnW12 : W12.heap[(W11).heap.size]? = some (.cells #[.int .i64 0, .int .i64 2] 3) := by rw [hwW12]; exact heap_alloc_new _ _
      have hltW12 : (W11).heap.size < W12.heap.size := by rw [hwW12]; simp
      rw [← hwW12]
      clear hwW12
      have hbW12 : Below w0.heap.size w0 W12 := hbW11.trans (hqW12.mono hbW11.size)
      have hzW12 := hbW12.size
      have F1W12 := (F1W11.below hqW12 (Nat.le_refl _)).up hqW12.size
      have L1W12 := (L1W11.below hqW12 (Nat.le_refl _)).up hqW12.size
      have F2W12 := (F2W11.below hqW12 (Nat.le_refl _)).up hqW12.size
      have L2W12 := (L2W11.below hqW12 (Nat.le_refl _)).up hqW12.size
      have L3W12 := (L3W11.below hqW12 (Nat.le_refl _)).up hqW12.size
      have L4W12 : Sl W12 W12.heap.size 1 (some ⟨W11.heap.size, 0, none⟩) 2 2 (icells [0, 2]) := sl_blk (T := 3) (cs := #[.int .i64 0, .int .i64 2]) hnW12 rfl (by decide) (by decide) hltW12
      have kW12_0 := (hbW12.cell (p := ⟨gb, 0, none⟩) hgl).trans a0
      have kW12_1 := (hbW12.cell (p := ⟨gb, 1, none⟩) hgl).trans a1
      have kW12_2 := (hbW12.cell (p := ⟨gb, 2, none⟩) hgl).trans a2
      have kW12_3 := (hbW12.cell (p := ⟨lb, 0, none⟩) hll).trans a3
      have kW12_4 := (hbW12.cell (p := ⟨lb, 1, none⟩) hll).trans a4
      refine hK.out _ _ ⟨kW12_0, kW12_1, kW12_2, kW12_3, kW12_4⟩ (fun hS => ?_)
      clear hK
      try simp only [Act.put, List.setIfInBounds_toArray, List.set_cons_zero, List.set_cons_succ]
      refine wpAnyH_takeD (i := 42) (v := ?_) rfl (by kernel_rfl) (by kernel_rfl) (by kernel_rfl) (fun _ _ _ h => h) (Or.inl ⟨by kernel_rfl, ?_⟩) hS ?_
      rotate_left 1
      · (intro w' hSw; (try dsimp only at hSw); go_simp; try (with_reducible rfl))
      try simp only [Act.put, List.setIfInBounds_toArray, List.set_cons_zero, List.set_cons_succ]
      refine wpAnyH_oneD (i := 43) rfl (by kernel_rfl) (fun K hK => ?_)
      rw [if_pos (by kernel_rfl)]
      go_simp
      refine (fis_any (some ⟨w.heap.size, 0, none⟩) (some ⟨w.heap.size + 3, 0, none⟩) (some ⟨w.heap.size + 4, 0, none⟩) 1 1 3 3 3 3 Gaw [] [] [0, 2] none 0 0 none (some ⟨W11.heap.size, 0, none⟩) 0 0 2 2 (W12) (W12).heap.size ((HG.out.below hbW12 (Nat.le_refl _)).up hbW12.size) (sl2_nil _ _) (Sl.none_ _ _ _) L4W12 (Nat.le_refl _) (by omega) (by omega) (fun l hl => by have := aw_lens l hl; omega) (by omega) (by omega) (by omega)).mono ?_
      rw [aw_is2]
      rintro e W13 ⟨rfl, hqW13⟩
      have hbW13 : Below w0.heap.size w0 W13 := hbW12.trans (hqW13.mono hbW12.size)
      have hzW13 := hbW13.size
      have F1W13 := (F1W12.below hqW13 (Nat.le_refl _)).up hqW13.size
      have L1W13 := (L1W12.below hqW13 (Nat.le_refl _)).up hqW13.size
      have F2W13 := (F2W12.below hqW13 (Nat.le_refl _)).up hqW13.size
      have L2W13 := (L2W12.below hqW13 (Nat.le_refl _)).up hqW13.size
      have L3W13 := (L3W12.below hqW13 (Nat.le_refl _)).up hqW13.size
      have L4W13 := (L4W12.below hqW13 (Nat.le_refl _)).up hqW13.size
      have kW13_0 := (hbW13.cell (p := ⟨gb, 0, none⟩) hgl).trans a0
      have kW13_1 := (hbW13.cell (p := ⟨gb, 1, none⟩) hgl).trans a1
      have kW13_2 := (hbW13.cell (p := ⟨gb, 2, none⟩) hgl).trans a2
      have kW13_3 := (hbW13.cell (p := ⟨lb, 0, none⟩) hll).trans a3
      have kW13_4 := (hbW13.cell (p := ⟨lb, 1, none⟩) hll).trans a4
      go_wp2_with fail
      refine hK.out _ _ ⟨kW13_0, kW13_1, kW13_2, kW13_3, kW13_4⟩ (fun hS => ?_)
      clear hK
      try simp only [Act.put, List.setIfInBounds_toArray, List.set_cons_zero, List.set_cons_succ]
      refine wpAnyH_takeD (i := 44) (v := ?_) rfl (by kernel_rfl) (by kernel_rfl) (by kernel_rfl) (fun _ _ _ h => h) (Or.inl ⟨by kernel_rfl, ?_⟩) hS ?_
      rotate_left 1
      · (intro w' hSw; (try dsimp only at hSw); go_simp; try (with_reducible rfl))
      try simp only [Act.put, List.setIfInBounds_toArray, List.set_cons_zero, List.set_cons_succ]
      refine wpAnyH_takeD (i := 45) (v := ?_) rfl (by kernel_rfl) (by kernel_rfl) (by kernel_rfl) (fun _ _ _ h => h) (Or.inl ⟨by kernel_rfl, ?_⟩) hS ?_
      rotate_left 1
      · (intro w' hSw; (try dsimp only at hSw); go_simp; try (with_reducible rfl))
      try simp only [Act.put, List.setIfInBounds_toArray, List.set_cons_zero, List.set_cons_succ]
      refine wpAnyH_takeD (i := 46) (v := ?_) rfl (by kernel_rfl) (by kernel_rfl) (by kernel_rfl) (fun _ _ _ h => h) (Or.inl ⟨by kernel_rfl, ?_⟩) hS ?_
      rotate_left 1
      · (intro w' hSw; (try dsimp only at hSw); go_simp; try (with_reducible rfl))
      try simp only [Act.put, List.setIfInBounds_toArray, List.set_cons_zero]
      refine wpAnyH_done (by kernel_rfl) ?_ _
      go_wp2
      go_ret
      exact ⟨rfl, HBW.out.trans (hbW13.mono HBW.out.size)⟩
    · skip
      rw [if_pos (by kernel_rfl)]
      go_simp
      obtain ⟨W14, hwW14⟩ : ∃ W, W = (W3).alloc (.cells (madeCells #[.bool false] 3) 4) := ⟨_, rfl⟩
      have hqW14 : Below (W3).heap.size (W3) W14 := by rw [hwW14]; exact (Below.refl _ _).alloc (Nat.le_refl _) _
      have hnW14 : W14.heap[(W3).heap.size]? = some (.cells (madeCells #[.bool false] 3) 4) := by rw [hwW14]; exact heap_alloc_new _ _
      have hltW14 : (W3).heap.size < W14.heap.size := by rw [hwW14]; simp
      rw [← hwW14]
      clear hwW14
      have hbW14 : Below w0.heap.size w0 W14 := hbW3.trans (hqW14.mono hbW3.size)
      have hzW14 := hbW14.size
      have F1W14 := (F1W3.below hqW14 (Nat.le_refl _)).up hqW14.size
      have L1W14 := (L1W3.below hqW14 (Nat.le_refl _)).up hqW14.size
      have L2W14 : Sl W14 W14.heap.size 1 (some ⟨W3.heap.size, 0, none⟩) 3 3 ([false, false, false].map .bool) := sl_blk (T := 4) hnW14 (toList_madeCells_one _ _) (by decide) (by decide) hltW14
      have kW14_0 := (hbW14.cell (p := ⟨gb, 0, none⟩) hgl).trans a0
      have kW14_1 := (hbW14.cell (p := ⟨gb, 1, none⟩) hgl).trans a1
      have kW14_2 := (hbW14.cell (p := ⟨gb, 2, none⟩) hgl).trans a2
      have kW14_3 := (hbW14.cell (p := ⟨lb, 0, none⟩) hll).trans a3
      have kW14_4 := (hbW14.cell (p := ⟨lb, 1, none⟩) hll).trans a4
      refine hK.out _ _ ⟨kW14_0, kW14_1, kW14_2, kW14_3, kW14_4⟩ (fun hS => ?_)
      clear hK
      try simp only [Act.put, List.setIfInBounds_toArray, List.set_cons_zero, List.set_cons_succ]
      refine wpAnyH_oneD (i := 7) rfl (by kernel_rfl) (fun K hK => ?_)
      rw [if_pos (by kernel_rfl)]
      go_simp
      refine (ffair_any (some ⟨w.heap.size, 0, none⟩) (some ⟨w.heap.size + 3, 0, none⟩) (some ⟨w.heap.size + 4, 0, none⟩) 1 1 3 3 3 3 Gaw endS (some ⟨w.heap.size + 7, 0, none⟩) 1 1 [false, false, false] (W14) w0.heap.size (HG.out.below hbW14 (Nat.le_refl _)) (HE.out.below hbW14 (Nat.le_refl _)) aw_end hbW14.size (by omega) 2 aw_lens (by omega) (by omega)).mono ?_
      rintro e W15 ⟨vW15, rfl, hoW15, hqW15, _⟩
      have hbW15 : Below w0.heap.size w0 W15 := hbW14.trans (hqW15.mono hbW14.size)
      have hzW15 := hbW15.size
      have F1W15 := (F1W14.below hqW15 (Nat.le_refl _)).up hqW15.size
      have L1W15 := (L1W14.below hqW15 (Nat.le_refl _)).up hqW15.size
      have L2W15 := (L2W14.below hqW15 (Nat.le_refl _)).up hqW15.size
      obtain ⟨AF2, cF2, rfl, F2W15⟩ := own_sl hoW15
      have kW15_0 := (hbW15.cell (p := ⟨gb, 0, none⟩) hgl).trans a0
      have kW15_1 := (hbW15.cell (p := ⟨gb, 1, none⟩) hgl).trans a1
      have kW15_2 := (hbW15.cell (p := ⟨gb, 2, none⟩) hgl).trans a2
      have kW15_3 := (hbW15.cell (p := ⟨lb, 0, none⟩) hll).trans a3
      have kW15_4 := (hbW15.cell (p := ⟨lb, 1, none⟩) hll).trans a4
      go_wp2_with fail
      refine hK.out _ _ ⟨kW15_0, kW15_1, kW15_2, kW15_3, kW15_4⟩ (fun hS => ?_)
      clear hK
      try simp only [Act.put, List.setIfInBounds_toArray, List.set_cons_zero, List.set_cons_succ]
      refine wpAnyH_oneD (i := 9) rfl (by kernel_rfl) (fun K hK => ?_)
      rw [if_pos (by kernel_rfl)]
      go_simp
      refine (boolsF_any AF2 (some ⟨W3.heap.size, 0, none⟩) 3 cF2 3 3 [false, false, false] [false, false, false] (W15) _ _ F2W15 L2W15 rfl rfl (by omega)).mono ?_
      rw [show decide ([false, false, false] = [false, false, false]) = true from by decide]
      rintro e _ ⟨rfl, ndW16, rfl⟩
      obtain ⟨W16, hwW16⟩ : ∃ W, W = (W15).drewN ndW16 := ⟨_, rfl⟩
      have hqW16 := below_len hwW16
      rw [← hwW16]
      clear hwW16
      have hbW16 : Below w0.heap.size w0 W16 := hbW15.trans (hqW16.mono hbW15.size)
      have hzW16 := hbW16.size
      have F1W16 := (F1W15.below hqW16 (Nat.le_refl _)).up hqW16.size
      have L1W16 := (L1W15.below hqW16 (Nat.le_refl _)).up hqW16.size
      have L2W16 := (L2W15.below hqW16 (Nat.le_refl _)).up hqW16.size
      have F2W16 := (F2W15.below hqW16 (Nat.le_refl _)).up hqW16.size
      have kW16_0 := (hbW16.cell (p := ⟨gb, 0, none⟩) hgl).trans a0
      have kW16_1 := (hbW16.cell (p := ⟨gb, 1, none⟩) hgl).trans a1
      have kW16_2 := (hbW16.cell (p := ⟨gb, 2, none⟩) hgl).trans a2
      have kW16_3 := (hbW16.cell (p := ⟨lb, 0, none⟩) hll).trans a3
      have kW16_4 := (hbW16.cell (p := ⟨lb, 1, none⟩) hll).trans a4
      go_wp2_with fail
      refine hK.out _ _ ⟨kW16_0, kW16_1, kW16_2, kW16_3, kW16_4⟩ (fun hS => ?_)
      clear hK
      try simp only [Act.put, List.setIfInBounds_toArray, List.set_cons_zero, List.set_cons_succ]
      refine wpAnyH_takeD (i := 10) (v := ?_) rfl (by kernel_rfl) (by kernel_rfl) (by kernel_rfl) (fun _ _ _ h => h) (Or.inl ⟨by kernel_rfl, ?_⟩) hS ?_
      rotate_left 1
      · (intro w' hSw; (try dsimp only at hSw); go_simp; try (with_reducible rfl))
      try simp only [Act.put, List.setIfInBounds_toArray, List.set_cons_zero, List.set_cons_succ]
      refine wpAnyH_takeD (i := 11) (v := ?_) rfl (by kernel_rfl) (by kernel_rfl) (by kernel_rfl) (fun _ _ _ h => h) (Or.inl ⟨by kernel_rfl, ?_⟩) hS ?_
      rotate_left 1
      · (intro w' hSw; (try dsimp only at hSw); go_simp; try (with_reducible rfl))
      try simp only [Act.put, List.setIfInBounds_toArray, List.set_cons_zero, List.set_cons_succ]
      refine wpAnyH_takeD (i := 12) (v := ?_) rfl (by kernel_rfl) (by kernel_rfl) (by kernel_rfl) (fun _ _ _ h => h) (Or.inl ⟨by kernel_rfl, ?_⟩) hS ?_
      rotate_left 1
      · (intro w' hSw; (try dsimp only at hSw); go_simp; try (with_reducible rfl))
      try simp only [Act.put, List.setIfInBounds_toArray, List.set_cons_zero, List.set_cons_succ]
      refine wpAnyH_oneD (i := 13) rfl (by kernel_rfl) (fun K hK => ?_)
      rw [if_pos (by kernel_rfl)]
      go_simp
      refine (fsome_of (some ⟨w.heap.size, 0, none⟩) (some ⟨w.heap.size + 3, 0, none⟩) (some ⟨w.heap.size + 4, 0, none⟩) 1 1 3 3 3 3 Gaw [true, true, false] (.slice none 0 0) (W16) w0.heap.size (HG.out.below hbW16 (Nat.le_refl _)) rfl hbW16.size (by omega) (fun W hW => ffair_any (some ⟨w.heap.size, 0, none⟩) (some ⟨w.heap.size + 3, 0, none⟩) (some ⟨w.heap.size + 4, 0, none⟩) 1 1 3 3 3 3 Gaw [] none 0 0 [true, true, false] W w0.heap.size ((HG.out.below hbW16 (Nat.le_refl _)).below hW (by have := hbW16.size; omega)) (sl2_nil _ _) aw_none (Nat.le_trans hbW16.size hW.size) (by omega) 2 aw_lens (by omega) (by omega))).mono ?_
      rw [aw_i1]
      rintro e W17 ⟨rfl, hqW17⟩
      have hbW17 : Below w0.heap.size w0 W17 := hbW16.trans (hqW17.mono hbW16.size)
      have hzW17 := hbW17.size
      have F1W17 := (F1W16.below hqW17 (Nat.le_refl _)).up hqW17.size
      have L1W17 := (L1W16.below hqW17 (Nat.le_refl _)).up hqW17.size
      have L2W17 := (L2W16.below hqW17 (Nat.le_refl _)).up hqW17.size
      have F2W17 := (F2W16.below hqW17 (Nat.le_refl _)).up hqW17.size
      have kW17_0 := (hbW17.cell (p := ⟨gb, 0, none⟩) hgl).trans a0
      have kW17_1 := (hbW17.cell (p := ⟨gb, 1, none⟩) hgl).trans a1
      have kW17_2 := (hbW17.cell (p := ⟨gb, 2, none⟩) hgl).trans a2
      have kW17_3 := (hbW17.cell (p := ⟨lb, 0, none⟩) hll).trans a3
      have kW17_4 := (hbW17.cell (p := ⟨lb, 1, none⟩) hll).trans a4
      go_wp2_with fail
      refine hK.out _ _ ⟨kW17_0, kW17_1, kW17_2, kW17_3, kW17_4⟩ (fun hS => ?_)
      clear hK
      try simp only [Act.put, List.setIfInBounds_toArray, List.set_cons_zero, List.set_cons_succ]
      refine wpAnyH_takeD (i := 14) (v := ?_) rfl (by kernel_rfl) (by kernel_rfl) (by kernel_rfl) (fun _ _ _ h => h) (Or.inl ⟨by kernel_rfl, ?_⟩) hS ?_
      rotate_left 1
      · (intro w' hSw; (try dsimp only at hSw); go_simp; try (with_reducible rfl))
      try simp only [Act.put, List.setIfInBounds_toArray, List.set_cons_zero, List.set_cons_succ]
      refine wpAnyH_takeD (i := 15) (v := ?_) rfl (by kernel_rfl) (by kernel_rfl) (by kernel_rfl) (fun _ _ _ h => h) (Or.inl ⟨by kernel_rfl, ?_⟩) hS ?_
      rotate_left 1
      · (intro w' hSw; (try dsimp only at hSw); go_simp; try (with_reducible rfl))
      try simp only [Act.put, List.setIfInBounds_toArray, List.set_cons_zero, List.set_cons_succ]
      refine wpAnyH_takeD (i := 16) (v := ?_) rfl (by kernel_rfl) (by kernel_rfl) (by kernel_rfl) (fun _ _ _ h => h) (Or.inl ⟨by kernel_rfl, ?_⟩) hS ?_
      rotate_left 1
      · (intro w' hSw; (try dsimp only at hSw); go_simp; try (with_reducible rfl))
      try simp only [Act.put, List.setIfInBounds_toArray, List.set_cons_zero, List.set_cons_succ]
      refine wpAnyH_takeD (i := 17) (v := ?_) rfl (by kernel_rfl) (by kernel_rfl) (by kernel_rfl) (fun _ _ _ h => h) (Or.inl ⟨by kernel_rfl, ?_⟩) hS ?_
      rotate_left 1
      · (intro w' hSw; (try dsimp only at hSw); go_simp; try (with_reducible rfl))
      try simp only [Act.put, List.setIfInBounds_toArray, List.set_cons_zero, List.set_cons_succ]
      refine wpAnyH_oneD (i := 18) rfl (by kernel_rfl) (fun K hK => ?_)
      rw [if_pos (by kernel_rfl)]
      go_simp
      refine (fsome_of (some ⟨w.heap.size, 0, none⟩) (some ⟨w.heap.size + 3, 0, none⟩) (some ⟨w.heap.size + 4, 0, none⟩) 1 1 3 3 3 3 Gaw [false, false, false] (.slice (some ⟨w.heap.size + 7, 0, none⟩) 1 1) (W17) w0.heap.size (HG.out.below hbW17 (Nat.le_refl _)) rfl hbW17.size (by omega) (fun W hW => ffair_any (some ⟨w.heap.size, 0, none⟩) (some ⟨w.heap.size + 3, 0, none⟩) (some ⟨w.heap.size + 4, 0, none⟩) 1 1 3 3 3 3 Gaw endS (some ⟨w.heap.size + 7, 0, none⟩) 1 1 [false, false, false] W w0.heap.size ((HG.out.below hbW17 (Nat.le_refl _)).below hW (by have := hbW17.size; omega)) ((HE.out.below hbW17 (Nat.le_refl _)).below hW (by have := hbW17.size; omega)) aw_end (Nat.le_trans hbW17.size hW.size) (by omega) 2 aw_lens (by omega) (by omega))).mono ?_
      rw [aw_i2]
      rintro e W18 ⟨rfl, hqW18⟩
      have hbW18 : Below w0.heap.size w0 W18 := hbW17.trans (hqW18.mono hbW17.size)
      have hzW18 := hbW18.size
      have F1W18 := (F1W17.below hqW18 (Nat.le_refl _)).up hqW18.size
      have L1W18 := (L1W17.below hqW18 (Nat.le_refl _)).up hqW18.size
      have L2W18 := (L2W17.below hqW18 (Nat.le_refl _)).up hqW18.size
      have F2W18 := (F2W17.below hqW18 (Nat.le_refl _)).up hqW18.size
      have kW18_0 := (hbW18.cell (p := ⟨gb, 0, none⟩) hgl).trans a0
      have kW18_1 := (hbW18.cell (p := ⟨gb, 1, none⟩) hgl).trans a1
      have kW18_2 := (hbW18.cell (p := ⟨gb, 2, none⟩) hgl).trans a2
      have kW18_3 := (hbW18.cell (p := ⟨lb, 0, none⟩) hll).trans a3
      have kW18_4 := (hbW18.cell (p := ⟨lb, 1, none⟩) hll).trans a4
      go_wp2_with fail
      refine hK.out _ _ ⟨kW18_0, kW18_1, kW18_2, kW18_3, kW18_4⟩ (fun hS => ?_)
      clear hK
      try simp only [Act.put, List.setIfInBounds_toArray, List.set_cons_zero, List.set_cons_succ]
      refine wpAnyH_takeD (i := 19) (v := ?_) rfl (by kernel_rfl) (by kernel_rfl) (by kernel_rfl) (fun _ _ _ h => h) (Or.inl ⟨by kernel_rfl, ?_⟩) hS ?_
      rotate_left 1
      · (intro w' hSw; (try dsimp only at hSw); go_simp; try (with_reducible rfl))
      try simp only [Act.put, List.setIfInBounds_toArray, List.set_cons_zero, List.set_cons_succ]
      refine wpAnyH_takeD (i := 20) (v := ?_) rfl (by kernel_rfl) (by kernel_rfl) (by kernel_rfl) (fun _ _ _ h => h) (Or.inl ⟨by kernel_rfl, ?_⟩) hS ?_
      rotate_left 1
      · (intro w' hSw; (try dsimp only at hSw); go_simp; try (with_reducible rfl))
      try simp only [Act.put, List.setIfInBounds_toArray, List.set_cons_zero, List.set_cons_succ]
      refine wpAnyH_takeD (i := 21) (v := ?_) rfl (by kernel_rfl) (by kernel_rfl) (by kernel_rfl) (fun _ _ _ h => h) (Or.inl ⟨by kernel_rfl, ?_⟩) hS ?_
      rotate_left 1
      · (intro w' hSw; (try dsimp only at hSw); go_simp; try (with_reducible rfl))
      try simp only [Act.put, List.setIfInBounds_toArray, List.set_cons_zero, List.set_cons_succ]
      refine wpAnyH_takeD (i := 22) (v := ?_) rfl (by kernel_rfl) (by kernel_rfl) (by kernel_rfl) (fun _ _ _ h => h) (Or.inl ⟨by kernel_rfl, ?_⟩) hS ?_
      rotate_left 1
      · (intro w' hSw; (try dsimp only at hSw); go_simp; try (with_reducible rfl))
      try simp only [Act.put, List.setIfInBounds_toArray, List.set_cons_zero, List.set_cons_succ]
      refine wpAnyH_takeD (i := 23) (v := ?_) rfl (by kernel_rfl) (by kernel_rfl) (by kernel_rfl) (fun _ _ _ h => h) (Or.inl ⟨by kernel_rfl, ?_⟩) hS ?_
      rotate_left 1
      · (intro w' hSw; (try dsimp only at hSw); go_simp; try (with_reducible rfl))
      try simp only [Act.put, List.setIfInBounds_toArray, List.set_cons_zero, List.set_cons_succ]
      refine wpAnyH_takeD (i := 24) (v := ?_) rfl (by kernel_rfl) (by kernel_rfl) (by kernel_rfl) (fun _ _ _ h => h) (Or.inl ⟨by kernel_rfl, ?_⟩) hS ?_
      rotate_left 1
      · (intro w' hSw; (try dsimp only at hSw); go_simp; try (with_reducible rfl))
      try simp only [Act.put, List.setIfInBounds_toArray, List.set_cons_zero, List.set_cons_succ]
      refine wpAnyH_takeD (i := 25) (v := ?_) rfl (by kernel_rfl) (by kernel_rfl) (by kernel_rfl) (fun _ _ _ h => h) (Or.inl ⟨by kernel_rfl, ?_⟩) hS ?_
      rotate_left 1
      · (intro w' hSw; (try dsimp only at hSw); go_simp; try (with_reducible rfl))
      try simp only [Act.put, List.setIfInBounds_toArray, List.set_cons_zero, List.set_cons_succ]
      refine wpAnyH_takeD (i := 26) (v := ?_) rfl (by kernel_rfl) (by kernel_rfl) (by kernel_rfl) (fun _ _ _ h => h) (Or.inl ⟨by kernel_rfl, ?_⟩) hS ?_
      rotate_left 1
      · (intro w' hSw; (try dsimp only at hSw); go_simp; try (with_reducible rfl))
      try simp only [Act.put, List.setIfInBounds_toArray, List.set_cons_zero, List.set_cons_succ]
      refine wpAnyH_oneD (i := 27) rfl (by kernel_rfl) (fun K hK => ?_)
      rw [if_pos (by kernel_rfl)]
      go_simp
      refine (ris_any (some ⟨w.heap.size, 0, none⟩) (some ⟨w.heap.size + 3, 0, none⟩) (some ⟨w.heap.size + 4, 0, none⟩) 1 1 3 3 3 3 Gaw [] stem loop none 0 0 s1 s2 n1 c1 n2 c2 (W18) w0.heap.size (HG.out.below hbW18 (Nat.le_refl _)) (sl2_nil _ _) (HL1'.out.below hbW18 (Nat.le_refl _)) (HL2'.out.below hbW18 (Nat.le_refl _)) hbW18.size (by omega) (by omega) (fun l hl => by have := aw_lens l hl; omega) (by omega) (by omega) (by omega)).mono ?_
      rw [HIS.out]
      rintro e W19 ⟨rfl, hqW19⟩
      have hbW19 : Below w0.heap.size w0 W19 := hbW18.trans (hqW19.mono hbW18.size)
      have hzW19 := hbW19.size
      have F1W19 := (F1W18.below hqW19 (Nat.le_refl _)).up hqW19.size
      have L1W19 := (L1W18.below hqW19 (Nat.le_refl _)).up hqW19.size
      have L2W19 := (L2W18.below hqW19 (Nat.le_refl _)).up hqW19.size
      have F2W19 := (F2W18.below hqW19 (Nat.le_refl _)).up hqW19.size
      have kW19_0 := (hbW19.cell (p := ⟨gb, 0, none⟩) hgl).trans a0
      have kW19_1 := (hbW19.cell (p := ⟨gb, 1, none⟩) hgl).trans a1
      have kW19_2 := (hbW19.cell (p := ⟨gb, 2, none⟩) hgl).trans a2
      have kW19_3 := (hbW19.cell (p := ⟨lb, 0, none⟩) hll).trans a3
      have kW19_4 := (hbW19.cell (p := ⟨lb, 1, none⟩) hll).trans a4
      go_wp2_with fail
      refine hK.out _ _ ⟨kW19_0, kW19_1, kW19_2, kW19_3, kW19_4⟩ (fun hS => ?_)
      clear hK
      try simp only [Act.put, List.setIfInBounds_toArray, List.set_cons_zero, List.set_cons_succ]
      refine wpAnyH_takeD (i := 28) (v := ?_) rfl (by kernel_rfl) (by kernel_rfl) (by kernel_rfl) (fun _ _ _ h => h) (Or.inl ⟨by kernel_rfl, ?_⟩) hS ?_
      rotate_left 1
      · (intro w' hSw; (try dsimp only at hSw); go_simp; try (with_reducible rfl))
      try simp only [Act.put, List.setIfInBounds_toArray, List.set_cons_zero, List.set_cons_succ]
      refine wpAnyH_takeD (i := 29) (v := ?_) rfl (by kernel_rfl) (by kernel_rfl) (by kernel_rfl) (fun _ _ _ h => h) (Or.inl ⟨by kernel_rfl, ?_⟩) hS ?_
      rotate_left 1
      · (intro w' hSw; (try dsimp only at hSw); go_simp; try (with_reducible rfl))
      try simp only [Act.put, List.setIfInBounds_toArray, List.set_cons_zero, List.set_cons_succ]
      refine wpAnyH_takeD (i := 30) (v := ?_) rfl (by kernel_rfl) (by kernel_rfl) (by kernel_rfl) (fun _ _ _ h => h) (Or.inl ⟨by kernel_rfl, ?_⟩) hS ?_
      rotate_left 1
      · (intro w' hSw; (try dsimp only at hSw); go_simp; try (with_reducible rfl))
      try simp only [Act.put, List.setIfInBounds_toArray, List.set_cons_zero, List.set_cons_succ]
      refine wpAnyH_takeD (i := 31) (v := ?_) rfl (by kernel_rfl) (by kernel_rfl) (by kernel_rfl) (fun _ _ _ h => h) (Or.inl ⟨by kernel_rfl, ?_⟩) hS ?_
      rotate_left 1
      · (intro w' hSw; (try dsimp only at hSw); go_simp; try (with_reducible rfl))
      try simp only [Act.put, List.setIfInBounds_toArray, List.set_cons_zero, List.set_cons_succ]
      refine wpAnyH_takeD (i := 32) (v := ?_) rfl (by kernel_rfl) (by kernel_rfl) (by kernel_rfl) (fun _ _ _ h => h) (Or.inl ⟨by kernel_rfl, ?_⟩) hS ?_
      rotate_left 1
      · (intro w' hSw; (try dsimp only at hSw); go_simp; try (with_reducible rfl))
      try simp only [Act.put, List.setIfInBounds_toArray, List.set_cons_zero, List.set_cons_succ]
      refine wpAnyH_takeD (i := 33) (v := ?_) rfl (by kernel_rfl) (by kernel_rfl) (by kernel_rfl) (fun _ _ _ h => h) (Or.inl ⟨by kernel_rfl, ?_⟩) hS ?_
      rotate_left 1
      · (intro w' hSw; (try dsimp only at hSw); go_simp; try (with_reducible rfl))
      try simp only [Act.put, List.setIfInBounds_toArray, List.set_cons_zero, List.set_cons_succ]
      refine wpAnyH_takeD (i := 34) (v := ?_) rfl (by kernel_rfl) (by kernel_rfl) (by kernel_rfl) (fun _ _ _ h => h) (Or.inl ⟨by kernel_rfl, ?_⟩) hS ?_
      rotate_left 1
      · (intro w' hSw; (try dsimp only at hSw); go_simp; try (with_reducible rfl))
      try simp only [Act.put, List.setIfInBounds_toArray, List.set_cons_zero, List.set_cons_succ]
      refine wpAnyH_oneD (i := 35) rfl (by kernel_rfl) (fun K hK => ?_)
      rw [if_pos (by kernel_rfl)]
      go_simp
      obtain ⟨W20, hwW20⟩ : ∃ W, W = (W19).alloc (.cells #[.int .i64 0, .int .i64 1] 3) := ⟨_, rfl⟩
      have hqW20 : Below (W19).heap.size (W19) W20 := by rw [hwW20]; exact (Below.refl _ _).alloc (Nat.le_refl _) _
      have hnW20 : W20.heap[(W19).heap.size]? = some (.cells #[.int .i64 0, .int .i64 1] 3) := by rw [hwW20]; exact heap_alloc_new _ _
      have hltW20 : (W19).heap.size < W20.heap.size := by rw [hwW20]; simp
      rw [← hwW20]
      clear hwW20
      have hbW20 : Below w0.heap.size w0 W20 := hbW19.trans (hqW20.mono hbW19.size)
      have hzW20 := hbW20.size
      have F1W20 := (F1W19.below hqW20 (Nat.le_refl _)).up hqW20.size
      have L1W20 := (L1W19.below hqW20 (Nat.le_refl _)).up hqW20.size
      have L2W20 := (L2W19.below hqW20 (Nat.le_refl _)).up hqW20.size
      have F2W20 := (F2W19.below hqW20 (Nat.le_refl _)).up hqW20.size
      have L3W20 : Sl W20 W20.heap.size 1 (some ⟨W19.heap.size, 0, none⟩) 2 2 (icells [0, 1]) := sl_blk (T := 3) (cs := #[.int .i64 0, .int .i64 1]) hnW20 rfl (by decide) (by decide) hltW20
      have kW20_0 := (hbW20.cell (p := ⟨gb, 0, none⟩) hgl).trans a0
      have kW20_1 := (hbW20.cell (p := ⟨gb, 1, none⟩) hgl).trans a1
      have kW20_2 := (hbW20.cell (p := ⟨gb, 2, none⟩) hgl).trans a2
      have kW20_3 := (hbW20.cell (p := ⟨lb, 0, none⟩) hll).trans a3
      have kW20_4 := (hbW20.cell (p := ⟨lb, 1, none⟩) hll).trans a4
      refine hK.out _ _ ⟨kW20_0, kW20_1, kW20_2, kW20_3, kW20_4⟩ (fun hS => ?_)
      clear hK
      try simp only [Act.put, List.setIfInBounds_toArray, List.set_cons_zero, List.set_cons_succ]
      refine wpAnyH_takeD (i := 36) (v := ?_) rfl (by kernel_rfl) (by kernel_rfl) (by kernel_rfl) (fun _ _ _ h => h) (Or.inl ⟨by kernel_rfl, ?_⟩) hS ?_
      rotate_left 1
      · (intro w' hSw; (try dsimp only at hSw); go_simp; try (with_reducible rfl))
      try simp only [Act.put, List.setIfInBounds_toArray, List.set_cons_zero, List.set_cons_succ]
      refine wpAnyH_oneD (i := 37) rfl (by kernel_rfl) (fun K hK => ?_)
      rw [if_pos (by kernel_rfl)]
      go_simp
      refine (fis_any (some ⟨w.heap.size, 0, none⟩) (some ⟨w.heap.size + 3, 0, none⟩) (some ⟨w.heap.size + 4, 0, none⟩) 1 1 3 3 3 3 Gaw [] [] [0, 1] none 0 0 none (some ⟨W19.heap.size, 0, none⟩) 0 0 2 2 (W20) (W20).heap.size ((HG.out.below hbW20 (Nat.le_refl _)).up hbW20.size) (sl2_nil _ _) (Sl.none_ _ _ _) L3W20 (Nat.le_refl _) (by omega) (by omega) (fun l hl => by have := aw_lens l hl; omega) (by omega) (by omega) (by omega)).mono ?_
      rw [aw_is1]
      rintro e W21 ⟨rfl, hqW21⟩
      have hbW21 : Below w0.heap.size w0 W21 := hbW20.trans (hqW21.mono hbW20.size)
      have hzW21 := hbW21.size
      have F1W21 := (F1W20.below hqW21 (Nat.le_refl _)).up hqW21.size
      have L1W21 := (L1W20.below hqW21 (Nat.le_refl _)).up hqW21.size
      have L2W21 := (L2W20.below hqW21 (Nat.le_refl _)).up hqW21.size
      have F2W21 := (F2W20.below hqW21 (Nat.le_refl _)).up hqW21.size
      have L3W21 := (L3W20.below hqW21 (Nat.le_refl _)).up hqW21.size
      have kW21_0 := (hbW21.cell (p := ⟨gb, 0, none⟩) hgl).trans a0
      have kW21_1 := (hbW21.cell (p := ⟨gb, 1, none⟩) hgl).trans a1
      have kW21_2 := (hbW21.cell (p := ⟨gb, 2, none⟩) hgl).trans a2
      have kW21_3 := (hbW21.cell (p := ⟨lb, 0, none⟩) hll).trans a3
      have kW21_4 := (hbW21.cell (p := ⟨lb, 1, none⟩) hll).trans a4
      go_wp2_with fail
      refine hK.out _ _ ⟨kW21_0, kW21_1, kW21_2, kW21_3, kW21_4⟩ (fun hS => ?_)
      clear hK
      try simp only [Act.put, List.setIfInBounds_toArray, List.set_cons_zero, List.set_cons_succ]
      refine wpAnyH_takeD (i := 38) (v := ?_) rfl (by kernel_rfl) (by kernel_rfl) (by kernel_rfl) (fun _ _ _ h => h) (Or.inl ⟨by kernel_rfl, ?_⟩) hS ?_
      rotate_left 1
      · (intro w' hSw; (try dsimp only at hSw); go_simp; try (with_reducible rfl))
      try simp only [Act.put, List.setIfInBounds_toArray, List.set_cons_zero, List.set_cons_succ]
      refine wpAnyH_takeD (i := 39) (v := ?_) rfl (by kernel_rfl) (by kernel_rfl) (by kernel_rfl) (fun _ _ _ h => h) (Or.inl ⟨by kernel_rfl, ?_⟩) hS ?_
      rotate_left 1
      · (intro w' hSw; (try dsimp only at hSw); go_simp; try (with_reducible rfl))
      try simp only [Act.put, List.setIfInBounds_toArray, List.set_cons_zero, List.set_cons_succ]
      refine wpAnyH_takeD (i := 40) (v := ?_) rfl (by kernel_rfl) (by kernel_rfl) (by kernel_rfl) (fun _ _ _ h => h) (Or.inl ⟨by kernel_rfl, ?_⟩) hS ?_
      rotate_left 1
      · (intro w' hSw; (try dsimp only at hSw); go_simp; try (with_reducible rfl))
      try simp only [Act.put, List.setIfInBounds_toArray, List.set_cons_zero, List.set_cons_succ]
      refine wpAnyH_oneD (i := 41) rfl (by kernel_rfl) (fun K hK => ?_)
      rw [if_pos (by kernel_rfl)]
      go_simp
      obtain ⟨W22, hwW22⟩ : ∃ W, W = (W21).alloc (.cells #[.int .i64 0, .int .i64 2] 3) := ⟨_, rfl⟩
      have hqW22 : Below (W21).heap.size (W21) W22 := by rw [hwW22]; exact (Below.refl _ _).alloc (Nat.le_refl _) _
      have hnW22 : W22.heap[(W21).heap.size]? = some (.cells #[.int .i64 0, .int .i64 2] 3) := by rw [hwW22]; exact heap_alloc_new _ _
      have hltW22 : (W21).heap.size < W22.heap.size := by rw [hwW22]; simp
      rw [← hwW22]
      clear hwW22
      have hbW22 : Below w0.heap.size w0 W22 := hbW21.trans (hqW22.mono hbW21.size)
      have hzW22 := hbW22.size
      have F1W22 := (F1W21.below hqW22 (Nat.le_refl _)).up hqW22.size
      have L1W22 := (L1W21.below hqW22 (Nat.le_refl _)).up hqW22.size
      have L2W22 := (L2W21.below hqW22 (Nat.le_refl _)).up hqW22.size
      have F2W22 := (F2W21.below hqW22 (Nat.le_refl _)).up hqW22.size
      have L3W22 := (L3W21.below hqW22 (Nat.le_refl _)).up hqW22.size
      have L4W22 : Sl W22 W22.heap.size 1 (some ⟨W21.heap.size, 0, none⟩) 2 2 (icells [0, 2]) := sl_blk (T := 3) (cs := #[.int .i64 0, .int .i64 2]) hnW22 rfl (by decide) (by decide) hltW22
      have kW22_0 := (hbW22.cell (p := ⟨gb, 0, none⟩) hgl).trans a0
      have kW22_1 := (hbW22.cell (p := ⟨gb, 1, none⟩) hgl).trans a1
      have kW22_2 := (hbW22.cell (p := ⟨gb, 2, none⟩) hgl).trans a2
      have kW22_3 := (hbW22.cell (p := ⟨lb, 0, none⟩) hll).trans a3
      have kW22_4 := (hbW22.cell (p := ⟨lb, 1, none⟩) hll).trans a4
      refine hK.out _ _ ⟨kW22_0, kW22_1, kW22_2, kW22_3, kW22_4⟩ (fun hS => ?_)
      clear hK
      try simp only [Act.put, List.setIfInBounds_toArray, List.set_cons_zero, List.set_cons_succ]
      refine wpAnyH_takeD (i := 42) (v := ?_) rfl (by kernel_rfl) (by kernel_rfl) (by kernel_rfl) (fun _ _ _ h => h) (Or.inl ⟨by kernel_rfl, ?_⟩) hS ?_
      rotate_left 1
      · (intro w' hSw; (try dsimp only at hSw); go_simp; try (with_reducible rfl))
      try simp only [Act.put, List.setIfInBounds_toArray, List.set_cons_zero, List.set_cons_succ]
      refine wpAnyH_oneD (i := 43) rfl (by kernel_rfl) (fun K hK => ?_)
      rw [if_pos (by kernel_rfl)]
      go_simp
      refine (fis_any (some ⟨w.heap.size, 0, none⟩) (some ⟨w.heap.size + 3, 0, none⟩) (some ⟨w.heap.size + 4, 0, none⟩) 1 1 3 3 3 3 Gaw [] [] [0, 2] none 0 0 none (some ⟨W21.heap.size, 0, none⟩) 0 0 2 2 (W22) (W22).heap.size ((HG.out.below hbW22 (Nat.le_refl _)).up hbW22.size) (sl2_nil _ _) (Sl.none_ _ _ _) L4W22 (Nat.le_refl _) (by omega) (by omega) (fun l hl => by have := aw_lens l hl; omega) (by omega) (by omega) (by omega)).mono ?_
      rw [aw_is2]
      rintro e W23 ⟨rfl, hqW23⟩
      have hbW23 : Below w0.heap.size w0 W23 := hbW22.trans (hqW23.mono hbW22.size)
      have hzW23 := hbW23.size
      have F1W23 := (F1W22.below hqW23 (Nat.le_refl _)).up hqW23.size
      have L1W23 := (L1W22.below hqW23 (Nat.le_refl _)).up hqW23.size
      have L2W23 := (L2W22.below hqW23 (Nat.le_refl _)).up hqW23.size
      have F2W23 := (F2W22.below hqW23 (Nat.le_refl _)).up hqW23.size
      have L3W23 := (L3W22.below hqW23 (Nat.le_refl _)).up hqW23.size
      have L4W23 := (L4W22.below hqW23 (Nat.le_refl _)).up hqW23.size
      have kW23_0 := (hbW23.cell (p := ⟨gb, 0, none⟩) hgl).trans a0
      have kW23_1 := (hbW23.cell (p := ⟨gb, 1, none⟩) hgl).trans a1
      have kW23_2 := (hbW23.cell (p := ⟨gb, 2, none⟩) hgl).trans a2
      have kW23_3 := (hbW23.cell (p := ⟨lb, 0, none⟩) hll).trans a3
      have kW23_4 := (hbW23.cell (p := ⟨lb, 1, none⟩) hll).trans a4
      go_wp2_with fail
      refine hK.out _ _ ⟨kW23_0, kW23_1, kW23_2, kW23_3, kW23_4⟩ (fun hS => ?_)
      clear hK
      try simp only [Act.put, List.setIfInBounds_toArray, List.set_cons_zero, List.set_cons_succ]
      refine wpAnyH_takeD (i := 44) (v := ?_) rfl (by kernel_rfl) (by kernel_rfl) (by kernel_rfl) (fun _ _ _ h => h) (Or.inl ⟨by kernel_rfl, ?_⟩) hS ?_
      rotate_left 1
      · (intro w' hSw; (try dsimp only at hSw); go_simp; try (with_reducible rfl))
      try simp only [Act.put, List.setIfInBounds_toArray, List.set_cons_zero, List.set_cons_succ]
      refine wpAnyH_takeD (i := 45) (v := ?_) rfl (by kernel_rfl) (by kernel_rfl) (by kernel_rfl) (fun _ _ _ h => h) (Or.inl ⟨by kernel_rfl, ?_⟩) hS ?_
      rotate_left 1
      · (intro w' hSw; (try dsimp only at hSw); go_simp; try (with_reducible rfl))
      try simp only [Act.put, List.setIfInBounds_toArray, List.set_cons_zero, List.set_cons_succ]
      refine wpAnyH_takeD (i := 46) (v := ?_) rfl (by kernel_rfl) (by kernel_rfl) (by kernel_rfl) (fun _ _ _ h => h) (Or.inl ⟨by kernel_rfl, ?_⟩) hS ?_
      rotate_left 1
      · (intro w' hSw; (try dsimp only at hSw); go_simp; try (with_reducible rfl))
      try simp only [Act.put, List.setIfInBounds_toArray, List.set_cons_zero]
      refine wpAnyH_done (by kernel_rfl) ?_ _
      go_wp2
      go_ret
      exact ⟨rfl, HBW.out.trans (hbW23.mono HBW.out.size)⟩
  · skip
    go_simp
    obtain ⟨W24, hwW24⟩ : ∃ W, W = (w0.alloc (.cells #[.bool true, .bool true, .bool false] 4)).drew := ⟨_, rfl⟩
    have hqW24 : Below w0.drew.heap.size w0.drew W24 := by rw [hwW24]; exact ⟨rfl, rfl, rfl, ((Below.refl w0.heap.size w0).alloc (Nat.le_refl _) (.cells #[.bool true, .bool true, .bool false] 4)).size, ((Below.refl w0.heap.size w0).alloc (Nat.le_refl _) (.cells #[.bool true, .bool true, .bool false] 4)).block⟩
    have hnW24 : W24.heap[w0.heap.size]? = some (.cells #[.bool true, .bool true, .bool false] 4) := by rw [hwW24]; exact heap_alloc_new w0 _
    have hltW24 : w0.heap.size < W24.heap.size := by rw [hwW24]; show w0.heap.size < (w0.alloc _).heap.size; simp
    rw [← hwW24]
    clear hwW24
    have hbW24 : Below w0.heap.size w0 W24 := hb00.trans (hqW24.mono hb00.size)
    have hzW24 := hbW24.size
    have L1W24 : Sl W24 W24.heap.size 1 (some ⟨w0.heap.size, 0, none⟩) 3 3 ([true, true, false].map .bool) := sl_blk (T := 4) (cs := #[.bool true, .bool true, .bool false]) hnW24 rfl (by decide) (by decide) hltW24
    have kW24_0 := (hbW24.cell (p := ⟨gb, 0, none⟩) hgl).trans a0
    have kW24_1 := (hbW24.cell (p := ⟨gb, 1, none⟩) hgl).trans a1
    have kW24_2 := (hbW24.cell (p := ⟨gb, 2, none⟩) hgl).trans a2
    have kW24_3 := (hbW24.cell (p := ⟨lb, 0, none⟩) hll).trans a3
    have kW24_4 := (hbW24.cell (p := ⟨lb, 1, none⟩) hll).trans a4
    refine hK.out _ _ ⟨kW24_0, kW24_1, kW24_2, kW24_3, kW24_4⟩ (fun hS => ?_)
    clear hK
    try simp only [Act.put, List.setIfInBounds_toArray, List.set_cons_zero, List.set_cons_succ]
    refine wpAnyH_oneD (i := 1) rfl (by kernel_rfl) (fun K hK => ?_)
    go_simp
    refine (ffair_any (some ⟨w.heap.size, 0, none⟩) (some ⟨w.heap.size + 3, 0, none⟩) (some ⟨w.heap.size + 4, 0, none⟩) 1 1 3 3 3 3 Gaw [] none 0 0 [true, true, false] (W24) w0.heap.size (HG.out.below hbW24 (Nat.le_refl _)) (sl2_nil _ _) aw_none hbW24.size (by omega) 2 aw_lens (by omega) (by omega)).mono ?_
    rintro e W25 ⟨vW25, rfl, hoW25, hqW25, _⟩
    have hbW25 : Below w0.heap.size w0 W25 := hbW24.trans (hqW25.mono hbW24.size)
    have hzW25 := hbW25.size
    have L1W25 := (L1W24.below hqW25 (Nat.le_refl _)).up hqW25.size
    obtain ⟨AF1, cF1, rfl, F1W25⟩ := own_sl hoW25
    have kW25_0 := (hbW25.cell (p := ⟨gb, 0, none⟩) hgl).trans a0
    have kW25_1 := (hbW25.cell (p := ⟨gb, 1, none⟩) hgl).trans a1
    have kW25_2 := (hbW25.cell (p := ⟨gb, 2, none⟩) hgl).trans a2
    have kW25_3 := (hbW25.cell (p := ⟨lb, 0, none⟩) hll).trans a3
    have kW25_4 := (hbW25.cell (p := ⟨lb, 1, none⟩) hll).trans a4
    go_wp2_with fail
    refine hK.out _ _ ⟨kW25_0, kW25_1, kW25_2, kW25_3, kW25_4⟩ (fun hS => ?_)
    clear hK
    try simp only [Act.put, List.setIfInBounds_toArray, List.set_cons_zero, List.set_cons_succ]
    refine wpAnyH_oneD (i := 3) rfl (by kernel_rfl) (fun K hK => ?_)
    go_simp
    refine (boolsF_any AF1 (some ⟨w0.heap.size, 0, none⟩) 3 cF1 3 3 [true, true, false] [true, true, false] (W25) _ _ F1W25 L1W25 rfl rfl (by omega)).mono ?_
    rw [show decide ([true, true, false] = [true, true, false]) = true from by decide]
    rintro e _ ⟨rfl, ndW26, rfl⟩
    obtain ⟨W26, hwW26⟩ : ∃ W, W = (W25).drewN ndW26 := ⟨_, rfl⟩
    have hqW26 := below_len hwW26
    rw [← hwW26]
    clear hwW26
    have hbW26 : Below w0.heap.size w0 W26 := hbW25.trans (hqW26.mono hbW25.size)
    have hzW26 := hbW26.size
    have L1W26 := (L1W25.below hqW26 (Nat.le_refl _)).up hqW26.size
    have F1W26 := (F1W25.below hqW26 (Nat.le_refl _)).up hqW26.size
    have kW26_0 := (hbW26.cell (p := ⟨gb, 0, none⟩) hgl).trans a0
    have kW26_1 := (hbW26.cell (p := ⟨gb, 1, none⟩) hgl).trans a1
    have kW26_2 := (hbW26.cell (p := ⟨gb, 2, none⟩) hgl).trans a2
    have kW26_3 := (hbW26.cell (p := ⟨lb, 0, none⟩) hll).trans a3
    have kW26_4 := (hbW26.cell (p := ⟨lb, 1, none⟩) hll).trans a4
    go_wp2_with fail
    refine hK.out _ _ ⟨kW26_0, kW26_1, kW26_2, kW26_3, kW26_4⟩ (fun hS => ?_)
    clear hK
    try simp only [Act.put, List.setIfInBounds_toArray, List.set_cons_zero, List.set_cons_succ]
    refine wpAnyH_takeD (i := 4) (v := ?_) rfl (by kernel_rfl) (by kernel_rfl) (by kernel_rfl) (fun _ _ _ h => h) (Or.inl ⟨by kernel_rfl, ?_⟩) hS ?_
    rotate_left 1
    · (intro w' hSw; (try dsimp only at hSw); go_simp; try (with_reducible rfl))
    try simp only [Act.put, List.setIfInBounds_toArray, List.set_cons_zero, List.set_cons_succ]
    refine wpAnyH_takeD (i := 5) (v := ?_) rfl (by kernel_rfl) (by kernel_rfl) (by kernel_rfl) (fun _ _ _ h => h) (Or.inl ⟨by kernel_rfl, ?_⟩) hS ?_
    rotate_left 1
    · (intro w' hSw; (try dsimp only at hSw); go_simp; try (with_reducible rfl))
    try simp only [Act.put, List.setIfInBounds_toArray, List.set_cons_zero, List.set_cons_succ]
    refine wpAnyH_takeD (i := 6) (v := ?_) rfl (by kernel_rfl) (by kernel_rfl) (by kernel_rfl) (fun _ _ _ h => h) (Or.inl ⟨by kernel_rfl, ?_⟩) hS ?_
    rotate_left 1
    · (intro w' hSw; (try dsimp only at hSw); go_simp; try (with_reducible rfl))
    try simp only [Act.put, List.setIfInBounds_toArray, List.set_cons_zero, List.set_cons_succ]
    refine wpAnyH_ready (rs := [7, 8]) (by kernel_rfl) (by simp) ?_
    refine (allReadyH_consD (i := 7) rfl (fun K hK => ?_) (allReadyH_consD (i := 8) rfl (fun K hK => ?_) AllReadyH.nil))
    · skip
      rw [if_pos (by kernel_rfl)]
      go_simp
      refine (ffair_any (some ⟨w.heap.size, 0, none⟩) (some ⟨w.heap.size + 3, 0, none⟩) (some ⟨w.heap.size + 4, 0, none⟩) 1 1 3 3 3 3 Gaw endS (some ⟨w.heap.size + 7, 0, none⟩) 1 1 [false, false, false] (W26) w0.heap.size (HG.out.below hbW26 (Nat.le_refl _)) (HE.out.below hbW26 (Nat.le_refl _)) aw_end hbW26.size (by omega) 2 aw_lens (by omega) (by omega)).mono ?_
      rintro e W27 ⟨vW27, rfl, hoW27, hqW27, _⟩
      have hbW27 : Below w0.heap.size w0 W27 := hbW26.trans (hqW27.mono hbW26.size)
      have hzW27 := hbW27.size
      have L1W27 := (L1W26.below hqW27 (Nat.le_refl _)).up hqW27.size
      have F1W27 := (F1W26.below hqW27 (Nat.le_refl _)).up hqW27.size
      obtain ⟨AF2, cF2, rfl, F2W27⟩ := own_sl hoW27
      have kW27_0 := (hbW27.cell (p := ⟨gb, 0, none⟩) hgl).trans a0
      have kW27_1 := (hbW27.cell (p := ⟨gb, 1, none⟩) hgl).trans a1
      have kW27_2 := (hbW27.cell (p := ⟨gb, 2, none⟩) hgl).trans a2
      have kW27_3 := (hbW27.cell (p := ⟨lb, 0, none⟩) hll).trans a3
      have kW27_4 := (hbW27.cell (p := ⟨lb, 1, none⟩) hll).trans a4
      go_wp2_with fail
      refine hK.out _ _ ⟨kW27_0, kW27_1, kW27_2, kW27_3, kW27_4⟩ (fun hS => ?_)
      clear hK
      try simp only [Act.put, List.setIfInBounds_toArray, List.set_cons_zero, List.set_cons_succ]
      refine wpAnyH_oneD (i := 8) rfl (by kernel_rfl) (fun K hK => ?_)
      rw [if_pos (by kernel_rfl)]
      go_simp
      obtain ⟨W28, hwW28⟩ : ∃ W, W = (W27).alloc (.cells (madeCells #[.bool false] 3) 4) := ⟨_, rfl⟩
      have hqW28 : Below (W27).heap.size (W27) W28 := by rw [hwW28]; exact (Below.refl _ _).alloc (Nat.le_refl _) _
      have hnW28 : W28.heap[(W27).heap.size]? = some (.cells (madeCells #[.bool false] 3) 4) := by rw [hwW28]; exact heap_alloc_new _ _
      have hltW28 : (W27).heap.size < W28.heap.size := by rw [hwW28]; simp
      rw [← hwW28]
      clear hwW28
      have hbW28 : Below w0.heap.size w0 W28 := hbW27.trans (hqW28.mono hbW27.size)
      have hzW28 := hbW28.size
      have L1W28 := (L1W27.below hqW28 (Nat.le_refl _)).up hqW28.size
      have F1W28 := (F1W27.below hqW28 (Nat.le_refl _)).up hqW28.size
      have F2W28 := (F2W27.below hqW28 (Nat.le_refl _)).up hqW28.size
      have L2W28 : Sl W28 W28.heap.size 1 (some ⟨W27.heap.size, 0, none⟩) 3 3 ([false, false, false].map .bool) := sl_blk (T := 4) hnW28 (toList_madeCells_one _ _) (by decide) (by decide) hltW28
      have kW28_0 := (hbW28.cell (p := ⟨gb, 0, none⟩) hgl).trans a0
      have kW28_1 := (hbW28.cell (p := ⟨gb, 1, none⟩) hgl).trans a1
      have kW28_2 := (hbW28.cell (p := ⟨gb, 2, none⟩) hgl).trans a2
      have kW28_3 := (hbW28.cell (p := ⟨lb, 0, none⟩) hll).trans a3
      have kW28_4 := (hbW28.cell (p := ⟨lb, 1, none⟩) hll).trans a4
      refine hK.out _ _ ⟨kW28_0, kW28_1, kW28_2, kW28_3, kW28_4⟩ (fun hS => ?_)
      clear hK
      try simp only [Act.put, List.setIfInBounds_toArray, List.set_cons_zero, List.set_cons_succ]
      refine wpAnyH_oneD (i := 9) rfl (by kernel_rfl) (fun K hK => ?_)
      rw [if_pos (by kernel_rfl)]
      go_simp
      refine (boolsF_any AF2 (some ⟨W27.heap.size, 0, none⟩) 3 cF2 3 3 [false, false, false] [false, false, false] (W28) _ _ F2W28 L2W28 rfl rfl (by omega)).mono ?_
      rw [show decide ([false, false, false] = [false, false, false]) = true from by decide]
      rintro e _ ⟨rfl, ndW29, rfl⟩
      obtain ⟨W29, hwW29⟩ : ∃ W, W = (W28).drewN ndW29 := ⟨_, rfl⟩
      have hqW29 := below_len hwW29
      rw [← hwW29]
      clear hwW29
      have hbW29 : Below w0.heap.size w0 W29 := hbW28.trans (hqW29.mono hbW28.size)
      have hzW29 := hbW29.size
      have L1W29 := (L1W28.below hqW29 (Nat.le_refl _)).up hqW29.size
      have F1W29 := (F1W28.below hqW29 (Nat.le_refl _)).up hqW29.size
      have F2W29 := (F2W28.below hqW29 (Nat.le_refl _)).up hqW29.size
      have L2W29 := (L2W28.below hqW29 (Nat.le_refl _)).up hqW29.size
      have kW29_0 := (hbW29.cell (p := ⟨gb, 0, none⟩) hgl).trans a0
      have kW29_1 := (hbW29.cell (p := ⟨gb, 1, none⟩) hgl).trans a1
      have kW29_2 := (hbW29.cell (p := ⟨gb, 2, none⟩) hgl).trans a2
      have kW29_3 := (hbW29.cell (p := ⟨lb, 0, none⟩) hll).trans a3
      have kW29_4 := (hbW29.cell (p := ⟨lb, 1, none⟩) hll).trans a4
      go_wp2_with fail
      refine hK.out _ _ ⟨kW29_0, kW29_1, kW29_2, kW29_3, kW29_4⟩ (fun hS => ?_)
      clear hK
      try simp only [Act.put, List.setIfInBounds_toArray, List.set_cons_zero, List.set_cons_succ]
      refine wpAnyH_takeD (i := 10) (v := ?_) rfl (by kernel_rfl) (by kernel_rfl) (by kernel_rfl) (fun _ _ _ h => h) (Or.inl ⟨by kernel_rfl, ?_⟩) hS ?_
      rotate_left 1
      · (intro w' hSw; (try dsimp only at hSw); go_simp; try (with_reducible rfl))
      try simp only [Act.put, List.setIfInBounds_toArray, List.set_cons_zero, List.set_cons_succ]
      refine wpAnyH_takeD (i := 11) (v := ?_) rfl (by kernel_rfl) (by kernel_rfl) (by kernel_rfl) (fun _ _ _ h => h) (Or.inl ⟨by kernel_rfl, ?_⟩) hS ?_
      rotate_left 1
      · (intro w' hSw; (try dsimp only at hSw); go_simp; try (with_reducible rfl))
      try simp only [Act.put, List.setIfInBounds_toArray, List.set_cons_zero, List.set_cons_succ]
      refine wpAnyH_takeD (i := 12) (v := ?_) rfl (by kernel_rfl) (by kernel_rfl) (by kernel_rfl) (fun _ _ _ h => h) (Or.inl ⟨by kernel_rfl, ?_⟩) hS ?_
      rotate_left 1
      · (intro w' hSw; (try dsimp only at hSw); go_simp; try (with_reducible rfl))
      try simp only [Act.put, List.setIfInBounds_toArray, List.set_cons_zero, List.set_cons_succ]
      refine wpAnyH_oneD (i := 13) rfl (by kernel_rfl) (fun K hK => ?_)
      rw [if_pos (by kernel_rfl)]
      go_simp
      refine (fsome_of (some ⟨w.heap.size, 0, none⟩) (some ⟨w.heap.size + 3, 0, none⟩) (some ⟨w.heap.size + 4, 0, none⟩) 1 1 3 3 3 3 Gaw [true, true, false] (.slice none 0 0) (W29) w0.heap.size (HG.out.below hbW29 (Nat.le_refl _)) rfl hbW29.size (by omega) (fun W hW => ffair_any (some ⟨w.heap.size, 0, none⟩) (some ⟨w.heap.size + 3, 0, none⟩) (some ⟨w.heap.size + 4, 0, none⟩) 1 1 3 3 3 3 Gaw [] none 0 0 [true, true, false] W w0.heap.size ((HG.out.below hbW29 (Nat.le_refl _)).below hW (by have := hbW29.size; omega)) (sl2_nil _ _) aw_none (Nat.le_trans hbW29.size hW.size) (by omega) 2 aw_lens (by omega) (by omega))).mono ?_
      rw [aw_i1]
      rintro e W30 ⟨rfl, hqW30⟩
      have hbW30 : Below w0.heap.size w0 W30 := hbW29.trans (hqW30.mono hbW29.size)
      have hzW30 := hbW30.size
      have L1W30 := (L1W29.below hqW30 (Nat.le_refl _)).up hqW30.size
      have F1W30 := (F1W29.below hqW30 (Nat.le_refl _)).up hqW30.size
      have F2W30 := (F2W29.below hqW30 (Nat.le_refl _)).up hqW30.size
      have L2W30 := (L2W29.below hqW30 (Nat.le_refl _)).up hqW30.size
      have kW30_0 := (hbW30.cell (p := ⟨gb, 0, none⟩) hgl).trans a0
      have kW30_1 := (hbW30.cell (p := ⟨gb, 1, none⟩) hgl).trans a1
      have kW30_2 := (hbW30.cell (p := ⟨gb, 2, none⟩) hgl).trans a2
      have kW30_3 := (hbW30.cell (p := ⟨lb, 0, none⟩) hll).trans a3
      have kW30_4 := (hbW30.cell (p := ⟨lb, 1, none⟩) hll).trans a4
      go_wp2_with fail
      refine hK.out _ _ ⟨kW30_0, kW30_1, kW30_2, kW30_3, kW30_4⟩ (fun hS => ?_)
      clear hK
      try simp only [Act.put, List.setIfInBounds_toArray, List.set_cons_zero, List.set_cons_succ]
      refine wpAnyH_takeD (i := 14) (v := ?_) rfl (by kernel_rfl) (by kernel_rfl) (by kernel_rfl) (fun _ _ _ h => h) (Or.inl ⟨by kernel_rfl, ?_⟩) hS ?_
      rotate_left 1
      · (intro w' hSw; (try dsimp only at hSw); go_simp; try (with_reducible rfl))
      try simp only [Act.put, List.setIfInBounds_toArray, List.set_cons_zero, List.set_cons_succ]
      refine wpAnyH_takeD (i := 15) (v := ?_) rfl (by kernel_rfl) (by kernel_rfl) (by kernel_rfl) (fun _ _ _ h => h) (Or.inl ⟨by kernel_rfl, ?_⟩) hS ?_
      rotate_left 1
      · (intro w' hSw; (try dsimp only at hSw); go_simp; try (with_reducible rfl))
      try simp only [Act.put, List.setIfInBounds_toArray, List.set_cons_zero, List.set_cons_succ]
      refine wpAnyH_takeD (i := 16) (v := ?_) rfl (by kernel_rfl) (by kernel_rfl) (by kernel_rfl) (fun _ _ _ h => h) (Or.inl ⟨by kernel_rfl, ?_⟩) hS ?_
      rotate_left 1
      · (intro w' hSw; (try dsimp only at hSw); go_simp; try (with_reducible rfl))
      try simp only [Act.put, List.setIfInBounds_toArray, List.set_cons_zero, List.set_cons_succ]
      refine wpAnyH_takeD (i := 17) (v := ?_) rfl (by kernel_rfl) (by kernel_rfl) (by kernel_rfl) (fun _ _ _ h => h) (Or.inl ⟨by kernel_rfl, ?_⟩) hS ?_
      rotate_left 1
      · (intro w' hSw; (try dsimp only at hSw); go_simp; try (with_reducible rfl))
      try simp only [Act.put, List.setIfInBounds_toArray, List.set_cons_zero, List.set_cons_succ]
      refine wpAnyH_oneD (i := 18) rfl (by kernel_rfl) (fun K hK => ?_)
      rw [if_pos (by kernel_rfl)]
      go_simp
      refine (fsome_of (some ⟨w.heap.size, 0, none⟩) (some ⟨w.heap.size + 3, 0, none⟩) (some ⟨w.heap.size + 4, 0, none⟩) 1 1 3 3 3 3 Gaw [false, false, false] (.slice (some ⟨w.heap.size + 7, 0, none⟩) 1 1) (W30) w0.heap.size (HG.out.below hbW30 (Nat.le_refl _)) rfl hbW30.size (by omega) (fun W hW => ffair_any (some ⟨w.heap.size, 0, none⟩) (some ⟨w.heap.size + 3, 0, none⟩) (some ⟨w.heap.size + 4, 0, none⟩) 1 1 3 3 3 3 Gaw endS (some ⟨w.heap.size + 7, 0, none⟩) 1 1 [false, false, false] W w0.heap.size ((HG.out.below hbW30 (Nat.le_refl _)).below hW (by have := hbW30.size; omega)) ((HE.out.below hbW30 (Nat.le_refl _)).below hW (by have := hbW30.size; omega)) aw_end (Nat.le_trans hbW30.size hW.size) (by omega) 2 aw_lens (by omega) (by omega))).mono ?_
      rw [aw_i2]
      rintro e W31 ⟨rfl, hqW31⟩
      have hbW31 : Below w0.heap.size w0 W31 := hbW30.trans (hqW31.mono hbW30.size)
      have hzW31 := hbW31.size
      have L1W31 := (L1W30.below hqW31 (Nat.le_refl _)).up hqW31.size
      have F1W31 := (F1W30.below hqW31 (Nat.le_refl _)).up hqW31.size
      have F2W31 := (F2W30.below hqW31 (Nat.le_refl _)).up hqW31.size
      have L2W31 := (L2W30.below hqW31 (Nat.le_refl _)).up hqW31.size
      have kW31_0 := (hbW31.cell (p := ⟨gb, 0, none⟩) hgl).trans a0
      have kW31_1 := (hbW31.cell (p := ⟨gb, 1, none⟩) hgl).trans a1
      have kW31_2 := (hbW31.cell (p := ⟨gb, 2, none⟩) hgl).trans a2
      have kW31_3 := (hbW31.cell (p := ⟨lb, 0, none⟩) hll).trans a3
      have kW31_4 := (hbW31.cell (p := ⟨lb, 1, none⟩) hll).trans a4
      go_wp2_with fail
      refine hK.out _ _ ⟨kW31_0, kW31_1, kW31_2, kW31_3, kW31_4⟩ (fun hS => ?_)
      clear hK
      try simp only [Act.put, List.setIfInBounds_toArray, List.set_cons_zero, List.set_cons_succ]
      refine wpAnyH_takeD (i := 19) (v := ?_) rfl (by kernel_rfl) (by kernel_rfl) (by kernel_rfl) (fun _ _ _ h => h) (Or.inl ⟨by kernel_rfl, ?_⟩) hS ?_
      rotate_left 1
      · (intro w' hSw; (try dsimp only at hSw); go_simp; try (with_reducible rfl))
      try simp only [Act.put, List.setIfInBounds_toArray, List.set_cons_zero, List.set_cons_succ]
      refine wpAnyH_takeD (i := 20) (v := ?_) rfl (by kernel_rfl) (by kernel_rfl) (by kernel_rfl) (fun _ _ _ h => h) (Or.inl ⟨by kernel_rfl, ?_⟩) hS ?_
      rotate_left 1
      · (intro w' hSw; (try dsimp only at hSw); go_simp; try (with_reducible rfl))
      try simp only [Act.put, List.setIfInBounds_toArray, List.set_cons_zero, List.set_cons_succ]
      refine wpAnyH_takeD (i := 21) (v := ?_) rfl (by kernel_rfl) (by kernel_rfl) (by kernel_rfl) (fun _ _ _ h => h) (Or.inl ⟨by kernel_rfl, ?_⟩) hS ?_
      rotate_left 1
      · (intro w' hSw; (try dsimp only at hSw); go_simp; try (with_reducible rfl))
      try simp only [Act.put, List.setIfInBounds_toArray, List.set_cons_zero, List.set_cons_succ]
      refine wpAnyH_takeD (i := 22) (v := ?_) rfl (by kernel_rfl) (by kernel_rfl) (by kernel_rfl) (fun _ _ _ h => h) (Or.inl ⟨by kernel_rfl, ?_⟩) hS ?_
      rotate_left 1
      · (intro w' hSw; (try dsimp only at hSw); go_simp; try (with_reducible rfl))
      try simp only [Act.put, List.setIfInBounds_toArray, List.set_cons_zero, List.set_cons_succ]
      refine wpAnyH_takeD (i := 23) (v := ?_) rfl (by kernel_rfl) (by kernel_rfl) (by kernel_rfl) (fun _ _ _ h => h) (Or.inl ⟨by kernel_rfl, ?_⟩) hS ?_
      rotate_left 1
      · (intro w' hSw; (try dsimp only at hSw); go_simp; try (with_reducible rfl))
      try simp only [Act.put, List.setIfInBounds_toArray, List.set_cons_zero, List.set_cons_succ]
      refine wpAnyH_takeD (i := 24) (v := ?_) rfl (by kernel_rfl) (by kernel_rfl) (by kernel_rfl) (fun _ _ _ h => h) (Or.inl ⟨by kernel_rfl, ?_⟩) hS ?_
      rotate_left 1
      · (intro w' hSw; (try dsimp only at hSw); go_simp; try (with_reducible rfl))
      try simp only [Act.put, List.setIfInBounds_toArray, List.set_cons_zero, List.set_cons_succ]
      refine wpAnyH_takeD (i := 25) (v := ?_) rfl (by kernel_rfl) (by kernel_rfl) (by kernel_rfl) (fun _ _ _ h => h) (Or.inl ⟨by kernel_rfl, ?_⟩) hS ?_
      rotate_left 1
      · (intro w' hSw; (try dsimp only at hSw); go_simp; try (with_reducible rfl))
      try simp only [Act.put, List.setIfInBounds_toArray, List.set_cons_zero, List.set_cons_succ]
      refine wpAnyH_takeD (i := 26) (v := ?_) rfl (by kernel_rfl) (by kernel_rfl) (by kernel_rfl) (fun _ _ _ h => h) (Or.inl ⟨by kernel_rfl, ?_⟩) hS ?_
      rotate_left 1
      · (intro w' hSw; (try dsimp only at hSw); go_simp; try (with_reducible rfl))
      try simp only [Act.put, List.setIfInBounds_toArray, List.set_cons_zero, List.set_cons_succ]
      refine wpAnyH_oneD (i := 27) rfl (by kernel_rfl) (fun K hK => ?_)
      rw [if_pos (by kernel_rfl)]
      go_simp
      refine (ris_any (some ⟨w.heap.size, 0, none⟩) (some ⟨w.heap.size + 3, 0, none⟩) (some ⟨w.heap.size + 4, 0, none⟩) 1 1 3 3 3 3 Gaw [] stem loop none 0 0 s1 s2 n1 c1 n2 c2 (W31) w0.heap.size (HG.out.below hbW31 (Nat.le_refl _)) (sl2_nil _ _) (HL1'.out.below hbW31 (Nat.le_refl _)) (HL2'.out.below hbW31 (Nat.le_refl _)) hbW31.size (by omega) (by omega) (fun l hl => by have := aw_lens l hl; omega) (by omega) (by omega) (by omega)).mono ?_
      rw [HIS.out]
      rintro e W32 ⟨rfl, hqW32⟩
      have hbW32 : Below w0.heap.size w0 W32 := hbW31.trans (hqW32.mono hbW31.size)
      have hzW32 := hbW32.size
      have L1W32 := (L1W31.below hqW32 (Nat.le_refl _)).up hqW32.size
      have F1W32 := (F1W31.below hqW32 (Nat.le_refl _)).up hqW32.size
      have F2W32 := (F2W31.below hqW32 (Nat.le_refl _)).up hqW32.size
      have L2W32 := (L2W31.below hqW32 (Nat.le_refl _)).up hqW32.size
      have kW32_0 := (hbW32.cell (p := ⟨gb, 0, none⟩) hgl).trans a0
      have kW32_1 := (hbW32.cell (p := ⟨gb, 1, none⟩) hgl).trans a1
      have kW32_2 := (hbW32.cell (p := ⟨gb, 2, none⟩) hgl).trans a2
      have kW32_3 := (hbW32.cell (p := ⟨lb, 0, none⟩) hll).trans a3
      have kW32_4 := (hbW32.cell (p := ⟨lb, 1, none⟩) hll).trans a4
      go_wp2_with fail
      refine hK.out _ _ ⟨kW32_0, kW32_1, kW32_2, kW32_3, kW32_4⟩ (fun hS => ?_)
      clear hK
      try simp only [Act.put, List.setIfInBounds_toArray, List.set_cons_zero, List.set_cons_succ]
      refine wpAnyH_takeD (i := 28) (v := ?_) rfl (by kernel_rfl) (by kernel_rfl) (by kernel_rfl) (fun _ _ _ h => h) (Or.inl ⟨by kernel_rfl, ?_⟩) hS ?_
      rotate_left 1
      · (intro w' hSw; (try dsimp only at hSw); go_simp; try (with_reducible rfl))
      try simp only [Act.put, List.setIfInBounds_toArray, List.set_cons_zero, List.set_cons_succ]
      refine wpAnyH_takeD (i := 29) (v := ?_) rfl (by kernel_rfl) (by kernel_rfl) (by kernel_rfl) (fun _ _ _ h => h) (Or.inl ⟨by kernel_rfl, ?_⟩) hS ?_
      rotate_left 1
      · (intro w' hSw; (try dsimp only at hSw); go_simp; try (with_reducible rfl))
      try simp only [Act.put, List.setIfInBounds_toArray, List.set_cons_zero, List.set_cons_succ]
      refine wpAnyH_takeD (i := 30) (v := ?_) rfl (by kernel_rfl) (by kernel_rfl) (by kernel_rfl) (fun _ _ _ h => h) (Or.inl ⟨by kernel_rfl, ?_⟩) hS ?_
      rotate_left 1
      · (intro w' hSw; (try dsimp only at hSw); go_simp; try (with_reducible rfl))
      try simp only [Act.put, List.setIfInBounds_toArray, List.set_cons_zero, List.set_cons_succ]
      refine wpAnyH_takeD (i := 31) (v := ?_) rfl (by kernel_rfl) (by kernel_rfl) (by kernel_rfl) (fun _ _ _ h => h) (Or.inl ⟨by kernel_rfl, ?_⟩) hS ?_
      rotate_left 1
      · (intro w' hSw; (try dsimp only at hSw); go_simp; try (with_reducible rfl))
      try simp only [Act.put, List.setIfInBounds_toArray, List.set_cons_zero, List.set_cons_succ]
      refine wpAnyH_takeD (i := 32) (v := ?_) rfl (by kernel_rfl) (by kernel_rfl) (by kernel_rfl) (fun _ _ _ h => h) (Or.inl ⟨by kernel_rfl, ?_⟩) hS ?_
      rotate_left 1
      · (intro w' hSw; (try dsimp only at hSw); go_simp; try (with_reducible rfl))
      try simp only [Act.put, List.setIfInBounds_toArray, List.set_cons_zero, List.set_cons_succ]
      refine wpAnyH_takeD (i := 33) (v := ?_) rfl (by kernel_rfl) (by kernel_rfl) (by kernel_rfl) (fun _ _ _ h => h) (Or.inl ⟨by kernel_rfl, ?_⟩) hS ?_
      rotate_left 1
      · (intro w' hSw; (try dsimp only at hSw); go_simp; try (with_reducible rfl))
      try simp only [Act.put, List.setIfInBounds_toArray, List.set_cons_zero, List.set_cons_succ]
      refine wpAnyH_takeD (i := 34) (v := ?_) rfl (by kernel_rfl) (by kernel_rfl) (by kernel_rfl) (fun _ _ _ h => h) (Or.inl ⟨by kernel_rfl, ?_⟩) hS ?_
      rotate_left 1
      · (intro w' hSw; (try dsimp only at hSw); go_simp; try (with_reducible rfl))
      try simp only [Act.put, List.setIfInBounds_toArray, List.set_cons_zero, List.set_cons_succ]
      refine wpAnyH_oneD (i := 35) rfl (by kernel_rfl) (fun K hK => ?_)
      rw [if_pos (by kernel_rfl)]
      go_simp
      obtain ⟨W33, hwW33⟩ : ∃ W, W = (W32).alloc (.cells #[.int .i64 0, .int .i64 1] 3) := ⟨_, rfl⟩
      have hqW33 : Below (W32).heap.size (W32) W33 := by rw [hwW33]; exact (Below.refl _ _).alloc (Nat.le_refl _) _
      have hnW33 : W33.heap[(W32).heap.size]? = some (.cells #[.int .i64 0, .int .i64 1] 3) := by rw [hwW33]; exact heap_alloc_new _ _
      have hltW33 : (W32).heap.size < W33.heap.size := by rw [hwW33]; simp
      rw [← hwW33]
      clear hwW33
      have hbW33 : Below w0.heap.size w0 W33 := hbW32.trans (hqW33.mono hbW32.size)
      have hzW33 := hbW33.size
      have L1W33 := (L1W32.below hqW33 (Nat.le_refl _)).up hqW33.size
      have F1W33 := (F1W32.below hqW33 (Nat.le_refl _)).up hqW33.size
      have F2W33 := (F2W32.below hqW33 (Nat.le_refl _)).up hqW33.size
      have L2W33 := (L2W32.below hqW33 (Nat.le_refl _)).up hqW33.size
      have L3W33 : Sl W33 W33.heap.size 1 (some ⟨W32.heap.size, 0, none⟩) 2 2 (icells [0, 1]) := sl_blk (T := 3) (cs := #[.int .i64 0, .int .i64 1]) hnW33 rfl (by decide) (by decide) hltW33
      have kW33_0 := (hbW33.cell (p := ⟨gb, 0, none⟩) hgl).trans a0
      have kW33_1 := (hbW33.cell (p := ⟨gb, 1, none⟩) hgl).trans a1
      have kW33_2 := (hbW33.cell (p := ⟨gb, 2, none⟩) hgl).trans a2
      have kW33_3 := (hbW33.cell (p := ⟨lb, 0, none⟩) hll).trans a3
      have kW33_4 := (hbW33.cell (p := ⟨lb, 1, none⟩) hll).trans a4
      refine hK.out _ _ ⟨kW33_0, kW33_1, kW33_2, kW33_3, kW33_4⟩ (fun hS => ?_)
      clear hK
      try simp only [Act.put, List.setIfInBounds_toArray, List.set_cons_zero, List.set_cons_succ]
      refine wpAnyH_takeD (i := 36) (v := ?_) rfl (by kernel_rfl) (by kernel_rfl) (by kernel_rfl) (fun _ _ _ h => h) (Or.inl ⟨by kernel_rfl, ?_⟩) hS ?_
      rotate_left 1
      · (intro w' hSw; (try dsimp only at hSw); go_simp; try (with_reducible rfl))
      try simp only [Act.put, List.setIfInBounds_toArray, List.set_cons_zero, List.set_cons_succ]
      refine wpAnyH_oneD (i := 37) rfl (by kernel_rfl) (fun K hK => ?_)
      rw [if_pos (by kernel_rfl)]
      go_simp
      refine (fis_any (some ⟨w.heap.size, 0, none⟩) (some ⟨w.heap.size + 3, 0, none⟩) (some ⟨w.heap.size + 4, 0, none⟩) 1 1 3 3 3 3 Gaw [] [] [0, 1] none 0 0 none (some ⟨W32.heap.size, 0, none⟩) 0 0 2 2 (W33) (W33).heap.size ((HG.out.below hbW33 (Nat.le_refl _)).up hbW33.size) (sl2_nil _ _) (Sl.none_ _ _ _) L3W33 (Nat.le_refl _) (by omega) (by omega) (fun l hl => by have := aw_lens l hl; omega) (by omega) (by omega) (by omega)).mono ?_
      rw [aw_is1]
      rintro e W34 ⟨rfl, hqW34⟩
      have hbW34 : Below w0.heap.size w0 W34 := hbW33.trans (hqW34.mono hbW33.size)
      have hzW34 := hbW34.size
      have L1W34 := (L1W33.below hqW34 (Nat.le_refl _)).up hqW34.size
      have F1W34 := (F1W33.below hqW34 (Nat.le_refl _)).up hqW34.size
      have F2W34 := (F2W33.below hqW34 (Nat.le_refl _)).up hqW34.size
      have L2W34 := (L2W33.below hqW34 (Nat.le_refl _)).up hqW34.size
      have L3W34 := (L3W33.below hqW34 (Nat.le_refl _)).up hqW34.size
      have kW34_0 := (hbW34.cell (p := ⟨gb, 0, none⟩) hgl).trans a0
      have kW34_1 := (hbW34.cell (p := ⟨gb, 1, none⟩) hgl).trans a1
      have kW34_2 := (hbW34.cell (p := ⟨gb, 2, none⟩) hgl).trans a2
      have kW34_3 := (hbW34.cell (p := ⟨lb, 0, none⟩) hll).trans a3
      have kW34_4 := (hbW34.cell (p := ⟨lb, 1, none⟩) hll).trans a4
      go_wp2_with fail
      refine hK.out _ _ ⟨kW34_0, kW34_1, kW34_2, kW34_3, kW34_4⟩ (fun hS => ?_)
      clear hK
      try simp only [Act.put, List.setIfInBounds_toArray, List.set_cons_zero, List.set_cons_succ]
      refine wpAnyH_takeD (i := 38) (v := ?_) rfl (by kernel_rfl) (by kernel_rfl) (by kernel_rfl) (fun _ _ _ h => h) (Or.inl ⟨by kernel_rfl, ?_⟩) hS ?_
      rotate_left 1
      · (intro w' hSw; (try dsimp only at hSw); go_simp; try (with_reducible rfl))
      try simp only [Act.put, List.setIfInBounds_toArray, List.set_cons_zero, List.set_cons_succ]
      refine wpAnyH_takeD (i := 39) (v := ?_) rfl (by kernel_rfl) (by kernel_rfl) (by kernel_rfl) (fun _ _ _ h => h) (Or.inl ⟨by kernel_rfl, ?_⟩) hS ?_
      rotate_left 1
      · (intro w' hSw; (try dsimp only at hSw); go_simp; try (with_reducible rfl))
      try simp only [Act.put, List.setIfInBounds_toArray, List.set_cons_zero, List.set_cons_succ]
      refine wpAnyH_takeD (i := 40) (v := ?_) rfl (by kernel_rfl) (by kernel_rfl) (by kernel_rfl) (fun _ _ _ h => h) (Or.inl ⟨by kernel_rfl, ?_⟩) hS ?_
      rotate_left 1
      · (intro w' hSw; (try dsimp only at hSw); go_simp; try (with_reducible rfl))
      try simp only [Act.put, List.setIfInBounds_toArray, List.set_cons_zero, List.set_cons_succ]
      refine wpAnyH_oneD (i := 41) rfl (by kernel_rfl) (fun K hK => ?_)
      rw [if_pos (by kernel_rfl)]
      go_simp
      obtain ⟨W35, hwW35⟩ : ∃ W, W = (W34).alloc (.cells #[.int .i64 0, .int .i64 2] 3) := ⟨_, rfl⟩
      have hqW35 : Below (W34).heap.size (W34) W35 := by rw [hwW35]; exact (Below.refl _ _).alloc (Nat.le_refl _) _
      have hnW35 : W35.heap[(W34).heap.size]? = some (.cells #[.int .i64 0, .int .i64 2] 3) := by rw [hwW35]; exact heap_alloc_new _ _
      have hltW35 : (W34).heap.size < W35.heap.size := by rw [hwW35]; simp
      rw [← hwW35]
      clear hwW35
      have hbW35 : Below w0.heap.size w0 W35 := hbW34.trans (hqW35.mono hbW34.size)
      have hzW35 := hbW35.size
      have L1W35 := (L1W34.below hqW35 (Nat.le_refl _)).up hqW35.size
      have F1W35 := (F1W34.below hqW35 (Nat.le_refl _)).up hqW35.size
      have F2W35 := (F2W34.below hqW35 (Nat.le_refl _)).up hqW35.size
      have L2W35 := (L2W34.below hqW35 (Nat.le_refl _)).up hqW35.size
      have L3W35 := (L3W34.below hqW35 (Nat.le_refl _)).up hqW35.size
      have L4W35 : Sl W35 W35.heap.size 1 (some ⟨W34.heap.size, 0, none⟩) 2 2 (icells [0, 2]) := sl_blk (T := 3) (cs := #[.int .i64 0, .int .i64 2]) hnW35 rfl (by decide) (by decide) hltW35
      have kW35_0 := (hbW35.cell (p := ⟨gb, 0, none⟩) hgl).trans a0
      have kW35_1 := (hbW35.cell (p := ⟨gb, 1, none⟩) hgl).trans a1
      have kW35_2 := (hbW35.cell (p := ⟨gb, 2, none⟩) hgl).trans a2
      have kW35_3 := (hbW35.cell (p := ⟨lb, 0, none⟩) hll).trans a3
      have kW35_4 := (hbW35.cell (p := ⟨lb, 1, none⟩) hll).trans a4
      refine hK.out _ _ ⟨kW35_0, kW35_1, kW35_2, kW35_3, kW35_4⟩ (fun hS => ?_)
      clear hK
      try simp only [Act.put, List.setIfInBounds_toArray, List.set_cons_zero, List.set_cons_succ]
      refine wpAnyH_takeD (i := 42) (v := ?_) rfl (by kernel_rfl) (by kernel_rfl) (by kernel_rfl) (fun _ _ _ h => h) (Or.inl ⟨by kernel_rfl, ?_⟩) hS ?_
      rotate_left 1
      · (intro w' hSw; (try dsimp only at hSw); go_simp; try (with_reducible rfl))
      try simp only [Act.put, List.setIfInBounds_toArray, List.set_cons_zero, List.set_cons_succ]
      refine wpAnyH_oneD (i := 43) rfl (by kernel_rfl) (fun K hK => ?_)
      rw [if_pos (by kernel_rfl)]
      go_simp
      refine (fis_any (some ⟨w.heap.size, 0, none⟩) (some ⟨w.heap.size + 3, 0, none⟩) (some ⟨w.heap.size + 4, 0, none⟩) 1 1 3 3 3 3 Gaw [] [] [0, 2] none 0 0 none (some ⟨W34.heap.size, 0, none⟩) 0 0 2 2 (W35) (W35).heap.size ((HG.out.below hbW35 (Nat.le_refl _)).up hbW35.size) (sl2_nil _ _) (Sl.none_ _ _ _) L4W35 (Nat.le_refl _) (by omega) (by omega) (fun l hl => by have := aw_lens l hl; omega) (by omega) (by omega) (by omega)).mono ?_
      rw [aw_is2]
      rintro e W36 ⟨rfl, hqW36⟩
      have hbW36 : Below w0.heap.size w0 W36 := hbW35.trans (hqW36.mono hbW35.size)
      have hzW36 := hbW36.size
      have L1W36 := (L1W35.below hqW36 (Nat.le_refl _)).up hqW36.size
      have F1W36 := (F1W35.below hqW36 (Nat.le_refl _)).up hqW36.size
      have F2W36 := (F2W35.below hqW36 (Nat.le_refl _)).up hqW36.size
      have L2W36 := (L2W35.below hqW36 (Nat.le_refl _)).up hqW36.size
      have L3W36 := (L3W35.below hqW36 (Nat.le_refl _)).up hqW36.size
      have L4W36 := (L4W35.below hqW36 (Nat.le_refl _)).up hqW36.size
      have kW36_0 := (hbW36.cell (p := ⟨gb, 0, none⟩) hgl).trans a0
      have kW36_1 := (hbW36.cell (p := ⟨gb, 1, none⟩) hgl).trans a1
      have kW36_2 := (hbW36.cell (p := ⟨gb, 2, none⟩) hgl).trans a2
      have kW36_3 := (hbW36.cell (p := ⟨lb, 0, none⟩) hll).trans a3
      have kW36_4 := (hbW36.cell (p := ⟨lb, 1, none⟩) hll).trans a4
      go_wp2_with fail
      refine hK.out _ _ ⟨kW36_0, kW36_1, kW36_2, kW36_3, kW36_4⟩ (fun hS => ?_)
      clear hK
      try simp only [Act.put, List.setIfInBounds_toArray, List.set_cons_zero, List.set_cons_succ]
      refine wpAnyH_takeD (i := 44) (v := ?_) rfl (by kernel_rfl) (by kernel_rfl) (by kernel_rfl) (fun _ _ _ h => h) (Or.inl ⟨by kernel_rfl, ?_⟩) hS ?_
      rotate_left 1
      · (intro w' hSw; (try dsimp only at hSw); go_simp; try (with_reducible rfl))
      try simp only [Act.put, List.setIfInBounds_toArray, List.set_cons_zero, List.set_cons_succ]
      refine wpAnyH_takeD (i := 45) (v := ?_) rfl (by kernel_rfl) (by kernel_rfl) (by kernel_rfl) (fun _ _ _ h => h) (Or.inl ⟨by kernel_rfl, ?_⟩) hS ?_
      rotate_left 1
      · (intro w' hSw; (try dsimp only at hSw); go_simp; try (with_reducible rfl))
      try simp only [Act.put, List.setIfInBounds_toArray, List.set_cons_zero, List.set_cons_succ]
      refine wpAnyH_takeD (i := 46) (v := ?_) rfl (by kernel_rfl) (by kernel_rfl) (by kernel_rfl) (fun _ _ _ h => h) (Or.inl ⟨by kernel_rfl, ?_⟩) hS ?_
      rotate_left 1
      · (intro w' hSw; (try dsimp only at hSw); go_simp; try (with_reducible rfl))
      try simp only [Act.put, List.setIfInBounds_toArray, List.set_cons_zero]
      refine wpAnyH_done (by kernel_rfl) ?_ _
      go_wp2
      go_ret
      exact ⟨rfl, HBW.out.trans (hbW36.mono HBW.out.size)⟩
    · skip
      rw [if_pos (by kernel_rfl)]
      go_simp
      obtain ⟨W37, hwW37⟩ : ∃ W, W = (W26).alloc (.cells (madeCells #[.bool false] 3) 4) := ⟨_, rfl⟩
      have hqW37 : Below (W26).heap.size (W26) W37 := by rw [hwW37]; exact (Below.refl _ _).alloc (Nat.le_refl _) _
      have hnW37 : W37.heap[(W26).heap.size]? = some (.cells (madeCells #[.bool false] 3) 4) := by rw [hwW37]; exact heap_alloc_new _ _
      have hltW37 : (W26).heap.size < W37.heap.size := by rw [hwW37]; simp
      rw [← hwW37]
      clear hwW37
      have hbW37 : Below w0.heap.size w0 W37 := hbW26.trans (hqW37.mono hbW26.size)
      have hzW37 := hbW37.size
      have L1W37 := (L1W26.below hqW37 (Nat.le_refl _)).up hqW37.size
      have F1W37 := (F1W26.below hqW37 (Nat.le_refl _)).up hqW37.size
      have L2W37 : Sl W37 W37.heap.size 1 (some ⟨W26.heap.size, 0, none⟩) 3 3 ([false, false, false].map .bool) := sl_blk (T := 4) hnW37 (toList_madeCells_one _ _) (by decide) (by decide) hltW37
      have kW37_0 := (hbW37.cell (p := ⟨gb, 0, none⟩) hgl).trans a0
      have kW37_1 := (hbW37.cell (p := ⟨gb, 1, none⟩) hgl).trans a1
      have kW37_2 := (hbW37.cell (p := ⟨gb, 2, none⟩) hgl).trans a2
      have kW37_3 := (hbW37.cell (p := ⟨lb, 0, none⟩) hll).trans a3
      have kW37_4 := (hbW37.cell (p := ⟨lb, 1, none⟩) hll).trans a4
      refine hK.out _ _ ⟨kW37_0, kW37_1, kW37_2, kW37_3, kW37_4⟩ (fun hS => ?_)
      clear hK
      try simp only [Act.put, List.setIfInBounds_toArray, List.set_cons_zero, List.set_cons_succ]
      refine wpAnyH_oneD (i := 7) rfl (by kernel_rfl) (fun K hK => ?_)
      rw [if_pos (by kernel_rfl)]
      go_simp
      refine (ffair_any (some ⟨w.heap.size, 0, none⟩) (some ⟨w.heap.size + 3, 0, none⟩) (some ⟨w.heap.size + 4, 0, none⟩) 1 1 3 3 3 3 Gaw endS (some ⟨w.heap.size + 7, 0, none⟩) 1 1 [false, false, false] (W37) w0.heap.size (HG.out.below hbW37 (Nat.le_refl _)) (HE.out.below hbW37 (Nat.le_refl _)) aw_end hbW37.size (by omega) 2 aw_lens (by omega) (by omega)).mono ?_
      rintro e W38 ⟨vW38, rfl, hoW38, hqW38, _⟩
      have hbW38 : Below w0.heap.size w0 W38 := hbW37.trans (hqW38.mono hbW37.size)
      have hzW38 := hbW38.size
      have L1W38 := (L1W37.below hqW38 (Nat.le_refl _)).up hqW38.size
      have F1W38 := (F1W37.below hqW38 (Nat.le_refl _)).up hqW38.size
      have L2W38 := (L2W37.below hqW38 (Nat.le_refl _)).up hqW38.size
      obtain ⟨AF2, cF2, rfl, F2W38⟩ := own_sl hoW38
      have kW38_0 := (hbW38.cell (p := ⟨gb, 0, none⟩) hgl).trans a0
      have kW38_1 := (hbW38.cell (p := ⟨gb, 1, none⟩) hgl).trans a1
      have kW38_2 := (hbW38.cell (p := ⟨gb, 2, none⟩) hgl).trans a2
      have kW38_3 := (hbW38.cell (p := ⟨lb, 0, none⟩) hll).trans a3
      have kW38_4 := (hbW38.cell (p := ⟨lb, 1, none⟩) hll).trans a4
      go_wp2_with fail
      refine hK.out _ _ ⟨kW38_0, kW38_1, kW38_2, kW38_3, kW38_4⟩ (fun hS => ?_)
      clear hK
      try simp only [Act.put, List.setIfInBounds_toArray, List.set_cons_zero, List.set_cons_succ]
      refine wpAnyH_oneD (i := 9) rfl (by kernel_rfl) (fun K hK => ?_)
      rw [if_pos (by kernel_rfl)]
      go_simp
      refine (boolsF_any AF2 (some ⟨W26.heap.size, 0, none⟩) 3 cF2 3 3 [false, false, false] [false, false, false] (W38) _ _ F2W38 L2W38 rfl rfl (by omega)).mono ?_
      rw [show decide ([false, false, false] = [false, false, false]) = true from by decide]
      rintro e _ ⟨rfl, ndW39, rfl⟩
      obtain ⟨W39, hwW39⟩ : ∃ W, W = (W38).drewN ndW39 := ⟨_, rfl⟩
      have hqW39 := below_len hwW39
      rw [← hwW39]
      clear hwW39
      have hbW39 : Below w0.heap.size w0 W39 := hbW38.trans (hqW39.mono hbW38.size)
      have hzW39 := hbW39.size
      have L1W39 := (L1W38.below hqW39 (Nat.le_refl _)).up hqW39.size
      have F1W39 := (F1W38.below hqW39 (Nat.le_refl _)).up hqW39.size
      have L2W39 := (L2W38.below hqW39 (Nat.le_refl _)).up hqW39.size
      have F2W39 := (F2W38.below hqW39 (Nat.le_refl _)).up hqW39.size
      have kW39_0 := (hbW39.cell (p := ⟨gb, 0, none⟩) hgl).trans a0
      have kW39_1 := (hbW39.cell (p := ⟨gb, 1, none⟩) hgl).trans a1
      have kW39_2 := (hbW39.cell (p := ⟨gb, 2, none⟩) hgl).trans a2
      have kW39_3 := (hbW39.cell (p := ⟨lb, 0, none⟩) hll).trans a3
      have kW39_4 := (hbW39.cell (p := ⟨lb, 1, none⟩) hll).trans a4
      go_wp2_with fail
      refine hK.out _ _ ⟨kW39_0, kW39_1, kW39_2, kW39_3, kW39_4⟩ (fun hS => ?_)
      clear hK
      try simp only [Act.put, List.setIfInBounds_toArray, List.set_cons_zero, List.set_cons_succ]
      refine wpAnyH_takeD (i := 10) (v := ?_) rfl (by kernel_rfl) (by kernel_rfl) (by kernel_rfl) (fun _ _ _ h => h) (Or.inl ⟨by kernel_rfl, ?_⟩) hS ?_
      rotate_left 1
      · (intro w' hSw; (try dsimp only at hSw); go_simp; try (with_reducible rfl))
      try simp only [Act.put, List.setIfInBounds_toArray, List.set_cons_zero, List.set_cons_succ]
      refine wpAnyH_takeD (i := 11) (v := ?_) rfl (by kernel_rfl) (by kernel_rfl) (by kernel_rfl) (fun _ _ _ h => h) (Or.inl ⟨by kernel_rfl, ?_⟩) hS ?_
      rotate_left 1
      · (intro w' hSw; (try dsimp only at hSw); go_simp; try (with_reducible rfl))
      try simp only [Act.put, List.setIfInBounds_toArray, List.set_cons_zero, List.set_cons_succ]
      refine wpAnyH_takeD (i := 12) (v := ?_) rfl (by kernel_rfl) (by kernel_rfl) (by kernel_rfl) (fun _ _ _ h => h) (Or.inl ⟨by kernel_rfl, ?_⟩) hS ?_
      rotate_left 1
      · (intro w' hSw; (try dsimp only at hSw); go_simp; try (with_reducible rfl))
      try simp only [Act.put, List.setIfInBounds_toArray, List.set_cons_zero, List.set_cons_succ]
      refine wpAnyH_oneD (i := 13) rfl (by kernel_rfl) (fun K hK => ?_)
      rw [if_pos (by kernel_rfl)]
      go_simp
      refine (fsome_of (some ⟨w.heap.size, 0, none⟩) (some ⟨w.heap.size + 3, 0, none⟩) (some ⟨w.heap.size + 4, 0, none⟩) 1 1 3 3 3 3 Gaw [true, true, false] (.slice none 0 0) (W39) w0.heap.size (HG.out.below hbW39 (Nat.le_refl _)) rfl hbW39.size (by omega) (fun W hW => ffair_any (some ⟨w.heap.size, 0, none⟩) (some ⟨w.heap.size + 3, 0, none⟩) (some ⟨w.heap.size + 4, 0, none⟩) 1 1 3 3 3 3 Gaw [] none 0 0 [true, true, false] W w0.heap.size ((HG.out.below hbW39 (Nat.le_refl _)).below hW (by have := hbW39.size; omega)) (sl2_nil _ _) aw_none (Nat.le_trans hbW39.size hW.size) (by omega) 2 aw_lens (by omega) (by omega))).mono ?_
      rw [aw_i1]
      rintro e W40 ⟨rfl, hqW40⟩
      have hbW40 : Below w0.heap.size w0 W40 := hbW39.trans (hqW40.mono hbW39.size)
      have hzW40 := hbW40.size
      have L1W40 := (L1W39.below hqW40 (Nat.le_refl _)).up hqW40.size
      have F1W40 := (F1W39.below hqW40 (Nat.le_refl _)).up hqW40.size
      have L2W40 := (L2W39.below hqW40 (Nat.le_refl _)).up hqW40.size
      have F2W40 := (F2W39.below hqW40 (Nat.le_refl _)).up hqW40.size
      have kW40_0 := (hbW40.cell (p := ⟨gb, 0, none⟩) hgl).trans a0
      have kW40_1 := (hbW40.cell (p := ⟨gb, 1, none⟩) hgl).trans a1
      have kW40_2 := (hbW40.cell (p := ⟨gb, 2, none⟩) hgl).trans a2
      have kW40_3 := (hbW40.cell (p := ⟨lb, 0, none⟩) hll).trans a3
      have kW40_4 := (hbW40.cell (p := ⟨lb, 1, none⟩) hll).trans a4
      go_wp2_with fail
      refine hK.out _ _ ⟨kW40_0, kW40_1, kW40_2, kW40_3, kW40_4⟩ (fun hS => ?_)
      clear hK
      try simp only [Act.put, List.setIfInBounds_toArray, List.set_cons_zero, List.set_cons_succ]
      refine wpAnyH_takeD (i := 14) (v := ?_) rfl (by kernel_rfl) (by kernel_rfl) (by kernel_rfl) (fun _ _ _ h => h) (Or.inl ⟨by kernel_rfl, ?_⟩) hS ?_
      rotate_left 1
      · (intro w' hSw; (try dsimp only at hSw); go_simp; try (with_reducible rfl))
      try simp only [Act.put, List.setIfInBounds_toArray, List.set_cons_zero, List.set_cons_succ]
      refine wpAnyH_takeD (i := 15) (v := ?_) rfl (by kernel_rfl) (by kernel_rfl) (by kernel_rfl) (fun _ _ _ h => h) (Or.inl ⟨by kernel_rfl, ?_⟩) hS ?_
      rotate_left 1
      · (intro w' hSw; (try dsimp only at hSw); go_simp; try (with_reducible rfl))
      try simp only [Act.put, List.setIfInBounds_toArray, List.set_cons_zero, List.set_cons_succ]
      refine wpAnyH_takeD (i := 16) (v := ?_) rfl (by kernel_rfl) (by kernel_rfl) (by kernel_rfl) (fun _ _ _ h => h) (Or.inl ⟨by kernel_rfl, ?_⟩) hS ?_
      rotate_left 1
      · (intro w' hSw; (try dsimp only at hSw); go_simp; try (with_reducible rfl))
      try simp only [Act.put, List.setIfInBounds_toArray, List.set_cons_zero, List.set_cons_succ]
      refine wpAnyH_takeD (i := 17) (v := ?_) rfl (by kernel_rfl) (by kernel_rfl) (by kernel_rfl) (fun _ _ _ h => h) (Or.inl ⟨by kernel_rfl, ?_⟩) hS ?_
      rotate_left 1
      · (intro w' hSw; (try dsimp only at hSw); go_simp; try (with_reducible rfl))
      try simp only [Act.put, List.setIfInBounds_toArray, List.set_cons_zero, List.set_cons_succ]
      refine wpAnyH_oneD (i := 18) rfl (by kernel_rfl) (fun K hK => ?_)
      rw [if_pos (by kernel_rfl)]
      go_simp
      refine (fsome_of (some ⟨w.heap.size, 0, none⟩) (some ⟨w.heap.size + 3, 0, none⟩) (some ⟨w.heap.size + 4, 0, none⟩) 1 1 3 3 3 3 Gaw [false, false, false] (.slice (some ⟨w.heap.size + 7, 0, none⟩) 1 1) (W40) w0.heap.size (HG.out.below hbW40 (Nat.le_refl _)) rfl hbW40.size (by omega) (fun W hW => ffair_any (some ⟨w.heap.size, 0, none⟩) (some ⟨w.heap.size + 3, 0, none⟩) (some ⟨w.heap.size + 4, 0, none⟩) 1 1 3 3 3 3 Gaw endS (some ⟨w.heap.size + 7, 0, none⟩) 1 1 [false, false, false] W w0.heap.size ((HG.out.below hbW40 (Nat.le_refl _)).below hW (by have := hbW40.size; omega)) ((HE.out.below hbW40 (Nat.le_refl _)).below hW (by have := hbW40.size; omega)) aw_end (Nat.le_trans hbW40.size hW.size) (by omega) 2 aw_lens (by omega) (by omega))).mono ?_
      rw [aw_i2]
      rintro e W41 ⟨rfl, hqW41⟩
      have hbW41 : Below w0.heap.size w0 W41 := hbW40.trans (hqW41.mono hbW40.size)
      have hzW41 := hbW41.size
      have L1W41 := (L1W40.below hqW41 (Nat.le_refl _)).up hqW41.size
      have F1W41 := (F1W40.below hqW41 (Nat.le_refl _)).up hqW41.size
      have L2W41 := (L2W40.below hqW41 (Nat.le_refl _)).up hqW41.size
      have F2W41 := (F2W40.below hqW41 (Nat.le_refl _)).up hqW41.size
      have kW41_0 := (hbW41.cell (p := ⟨gb, 0, none⟩) hgl).trans a0
      have kW41_1 := (hbW41.cell (p := ⟨gb, 1, none⟩) hgl).trans a1
      have kW41_2 := (hbW41.cell (p := ⟨gb, 2, none⟩) hgl).trans a2
      have kW41_3 := (hbW41.cell (p := ⟨lb, 0, none⟩) hll).trans a3
      have kW41_4 := (hbW41.cell (p := ⟨lb, 1, none⟩) hll).trans a4
      go_wp2_with fail
      refine hK.out _ _ ⟨kW41_0, kW41_1, kW41_2, kW41_3, kW41_4⟩ (fun hS => ?_)
      clear hK
      try simp only [Act.put, List.setIfInBounds_toArray, List.set_cons_zero, List.set_cons_succ]
      refine wpAnyH_takeD (i := 19) (v := ?_) rfl (by kernel_rfl) (by kernel_rfl) (by kernel_rfl) (fun _ _ _ h => h) (Or.inl ⟨by kernel_rfl, ?_⟩) hS ?_
      rotate_left 1
      · (intro w' hSw; (try dsimp only at hSw); go_simp; try (with_reducible rfl))
      try simp only [Act.put, List.setIfInBounds_toArray, List.set_cons_zero, List.set_cons_succ]
      refine wpAnyH_takeD (i := 20) (v := ?_) rfl (by kernel_rfl) (by kernel_rfl) (by kernel_rfl) (fun _ _ _ h => h) (Or.inl ⟨by kernel_rfl, ?_⟩) hS ?_
      rotate_left 1
      · (intro w' hSw; (try dsimp only at hSw); go_simp; try (with_reducible rfl))
      try simp only [Act.put, List.setIfInBounds_toArray, List.set_cons_zero, List.set_cons_succ]
      refine wpAnyH_takeD (i := 21) (v := ?_) rfl (by kernel_rfl) (by kernel_rfl) (by kernel_rfl) (fun _ _ _ h => h) (Or.inl ⟨by kernel_rfl, ?_⟩) hS ?_
      rotate_left 1
      · (intro w' hSw; (try dsimp only at hSw); go_simp; try (with_reducible rfl))
      try simp only [Act.put, List.setIfInBounds_toArray, List.set_cons_zero, List.set_cons_succ]
      refine wpAnyH_takeD (i := 22) (v := ?_) rfl (by kernel_rfl) (by kernel_rfl) (by kernel_rfl) (fun _ _ _ h => h) (Or.inl ⟨by kernel_rfl, ?_⟩) hS ?_
      rotate_left 1
      · (intro w' hSw; (try dsimp only at hSw); go_simp; try (with_reducible rfl))
      try simp only [Act.put, List.setIfInBounds_toArray, List.set_cons_zero, List.set_cons_succ]
      refine wpAnyH_takeD (i := 23) (v := ?_) rfl (by kernel_rfl) (by kernel_rfl) (by kernel_rfl) (fun _ _ _ h => h) (Or.inl ⟨by kernel_rfl, ?_⟩) hS ?_
      rotate_left 1
      · (intro w' hSw; (try dsimp only at hSw); go_simp; try (with_reducible rfl))
      try simp only [Act.put, List.setIfInBounds_toArray, List.set_cons_zero, List.set_cons_succ]
      refine wpAnyH_takeD (i := 24) (v := ?_) rfl (by kernel_rfl) (by kernel_rfl) (by kernel_rfl) (fun _ _ _ h => h) (Or.inl ⟨by kernel_rfl, ?_⟩) hS ?_
      rotate_left 1
      · (intro w' hSw; (try dsimp only at hSw); go_simp; try (with_reducible rfl))
      try simp only [Act.put, List.setIfInBounds_toArray, List.set_cons_zero, List.set_cons_succ]
      refine wpAnyH_takeD (i := 25) (v := ?_) rfl (by kernel_rfl) (by kernel_rfl) (by kernel_rfl) (fun _ _ _ h => h) (Or.inl ⟨by kernel_rfl, ?_⟩) hS ?_
      rotate_left 1
      · (intro w' hSw; (try dsimp only at hSw); go_simp; try (with_reducible rfl))
      try simp only [Act.put, List.setIfInBounds_toArray, List.set_cons_zero, List.set_cons_succ]
      refine wpAnyH_takeD (i := 26) (v := ?_) rfl (by kernel_rfl) (by kernel_rfl) (by kernel_rfl) (fun _ _ _ h => h) (Or.inl ⟨by kernel_rfl, ?_⟩) hS ?_
      rotate_left 1
      · (intro w' hSw; (try dsimp only at hSw); go_simp; try (with_reducible rfl))
      try simp only [Act.put, List.setIfInBounds_toArray, List.set_cons_zero, List.set_cons_succ]
      refine wpAnyH_oneD (i := 27) rfl (by kernel_rfl) (fun K hK => ?_)
      rw [if_pos (by kernel_rfl)]
      go_simp
      refine (ris_any (some ⟨w.heap.size, 0, none⟩) (some ⟨w.heap.size + 3, 0, none⟩) (some ⟨w.heap.size + 4, 0, none⟩) 1 1 3 3 3 3 Gaw [] stem loop none 0 0 s1 s2 n1 c1 n2 c2 (W41) w0.heap.size (HG.out.below hbW41 (Nat.le_refl _)) (sl2_nil _ _) (HL1'.out.below hbW41 (Nat.le_refl _)) (HL2'.out.below hbW41 (Nat.le_refl _)) hbW41.size (by omega) (by omega) (fun l hl => by have := aw_lens l hl; omega) (by omega) (by omega) (by omega)).mono ?_
      rw [HIS.out]
      rintro e W42 ⟨rfl, hqW42⟩
      have hbW42 : Below w0.heap.size w0 W42 := hbW41.trans (hqW42.mono hbW41.size)
      have hzW42 := hbW42.size
      have L1W42 := (L1W41.below hqW42 (Nat.le_refl _)).up hqW42.size
      have F1W42 := (F1W41.below hqW42 (Nat.le_refl _)).up hqW42.size
      have L2W42 := (L2W41.below hqW42 (Nat.le_refl _)).up hqW42.size
      have F2W42 := (F2W41.below hqW42 (Nat.le_refl _)).up hqW42.size
      have kW42_0 := (hbW42.cell (p := ⟨gb, 0, none⟩) hgl).trans a0
      have kW42_1 := (hbW42.cell (p := ⟨gb, 1, none⟩) hgl).trans a1
      have kW42_2 := (hbW42.cell (p := ⟨gb, 2, none⟩) hgl).trans a2
      have kW42_3 := (hbW42.cell (p := ⟨lb, 0, none⟩) hll).trans a3
      have kW42_4 := (hbW42.cell (p := ⟨lb, 1, none⟩) hll).trans a4
      go_wp2_with fail
      refine hK.out _ _ ⟨kW42_0, kW42_1, kW42_2, kW42_3, kW42_4⟩ (fun hS => ?_)
      clear hK
      try simp only [Act.put, List.setIfInBounds_toArray, List.set_cons_zero, List.set_cons_succ]
      refine wpAnyH_takeD (i := 28) (v := ?_) rfl (by kernel_rfl) (by kernel_rfl) (by kernel_rfl) (fun _ _ _ h => h) (Or.inl ⟨by kernel_rfl, ?_⟩) hS ?_
      rotate_left 1
      · (intro w' hSw; (try dsimp only at hSw); go_simp; try (with_reducible rfl))
      try simp only [Act.put, List.setIfInBounds_toArray, List.set_cons_zero, List.set_cons_succ]
      refine wpAnyH_takeD (i := 29) (v := ?_) rfl (by kernel_rfl) (by kernel_rfl) (by kernel_rfl) (fun _ _ _ h => h) (Or.inl ⟨by kernel_rfl, ?_⟩) hS ?_
      rotate_left 1
      · (intro w' hSw; (try dsimp only at hSw); go_simp; try (with_reducible rfl))
      try simp only [Act.put, List.setIfInBounds_toArray, List.set_cons_zero, List.set_cons_succ]
      refine wpAnyH_takeD (i := 30) (v := ?_) rfl (by kernel_rfl) (by kernel_rfl) (by kernel_rfl) (fun _ _ _ h => h) (Or.inl ⟨by kernel_rfl, ?_⟩) hS ?_
      rotate_left 1
      · (intro w' hSw; (try dsimp only at hSw); go_simp; try (with_reducible rfl))
      try simp only [Act.put, List.setIfInBounds_toArray, List.set_cons_zero, List.set_cons_succ]
      refine wpAnyH_takeD (i := 31) (v := ?_) rfl (by kernel_rfl) (by kernel_rfl) (by kernel_rfl) (fun _ _ _ h => h) (Or.inl ⟨by kernel_rfl, ?_⟩) hS ?_
      rotate_left 1
      · (intro w' hSw; (try dsimp only at hSw); go_simp; try (with_reducible rfl))
      try simp only [Act.put, List.setIfInBounds_toArray, List.set_cons_zero, List.set_cons_succ]
      refine wpAnyH_takeD (i := 32) (v := ?_) rfl (by kernel_rfl) (by kernel_rfl) (by kernel_rfl) (fun _ _ _ h => h) (Or.inl ⟨by kernel_rfl, ?_⟩) hS ?_
      rotate_left 1
      · (intro w' hSw; (try dsimp only at hSw); go_simp; try (with_reducible rfl))
      try simp only [Act.put, List.setIfInBounds_toArray, List.set_cons_zero, List.set_cons_succ]
      refine wpAnyH_takeD (i := 33) (v := ?_) rfl (by kernel_rfl) (by kernel_rfl) (by kernel_rfl) (fun _ _ _ h => h) (Or.inl ⟨by kernel_rfl, ?_⟩) hS ?_
      rotate_left 1
      · (intro w' hSw; (try dsimp only at hSw); go_simp; try (with_reducible rfl))
      try simp only [Act.put, List.setIfInBounds_toArray, List.set_cons_zero, List.set_cons_succ]
      refine wpAnyH_takeD (i := 34) (v := ?_) rfl (by kernel_rfl) (by kernel_rfl) (by kernel_rfl) (fun _ _ _ h => h) (Or.inl ⟨by kernel_rfl, ?_⟩) hS ?_
      rotate_left 1
      · (intro w' hSw; (try dsimp only at hSw); go_simp; try (with_reducible rfl))
      try simp only [Act.put, List.setIfInBounds_toArray, List.set_cons_zero, List.set_cons_succ]
      refine wpAnyH_oneD (i := 35) rfl (by kernel_rfl) (fun K hK => ?_)
      rw [if_pos (by kernel_rfl)]
      go_simp
      obtain ⟨W43, hwW43⟩ : ∃ W, W = (W42).alloc (.cells #[.int .i64 0, .int .i64 1] 3) := ⟨_, rfl⟩
      have hqW43 : Below (W42).heap.size (W42) W43 := by rw [hwW43]; exact (Below.refl _ _).alloc (Nat.le_refl _) _
      have hnW43 : W43.heap[(W42).heap.size]? = some (.cells #[.int .i64 0, .int .i64 1] 3) := by rw [hwW43]; exact heap_alloc_new _ _
      have hltW43 : (W42).heap.size < W43.heap.size := by rw [hwW43]; simp
      rw [← hwW43]
      clear hwW43
      have hbW43 : Below w0.heap.size w0 W43 := hbW42.trans (hqW43.mono hbW42.size)
      have hzW43 := hbW43.size
      have L1W43 := (L1W42.below hqW43 (Nat.le_refl _)).up hqW43.size
      have F1W43 := (F1W42.below hqW43 (Nat.le_refl _)).up hqW43.size
      have L2W43 := (L2W42.below hqW43 (Nat.le_refl _)).up hqW43.size
      have F2W43 := (F2W42.below hqW43 (Nat.le_refl _)).up hqW43.size
      have L3W43 : Sl W43 W43.heap.size 1 (some ⟨W42.heap.size, 0, none⟩) 2 2 (icells [0, 1]) := sl_blk (T := 3) (cs := #[.int .i64 0, .int .i64 1]) hnW43 rfl (by decide) (by decide) hltW43
      have kW43_0 := (hbW43.cell (p := ⟨gb, 0, none⟩) hgl).trans a0
      have kW43_1 := (hbW43.cell (p := ⟨gb, 1, none⟩) hgl).trans a1
      have kW43_2 := (hbW43.cell (p := ⟨gb, 2, none⟩) hgl).trans a2
      have kW43_3 := (hbW43.cell (p := ⟨lb, 0, none⟩) hll).trans a3
      have kW43_4 := (hbW43.cell (p := ⟨lb, 1, none⟩) hll).trans a4
      refine hK.out _ _ ⟨kW43_0, kW43_1, kW43_2, kW43_3, kW43_4⟩ (fun hS => ?_)
      clear hK
      try simp only [Act.put, List.setIfInBounds_toArray, List.set_cons_zero, List.set_cons_succ]
      refine wpAnyH_takeD (i := 36) (v := ?_) rfl (by kernel_rfl) (by kernel_rfl) (by kernel_rfl) (fun _ _ _ h => h) (Or.inl ⟨by kernel_rfl, ?_⟩) hS ?_
      rotate_left 1
      · (intro w' hSw; (try dsimp only at hSw); go_simp; try (with_reducible rfl))
      try simp only [Act.put, List.setIfInBounds_toArray, List.set_cons_zero, List.set_cons_succ]
      refine wpAnyH_oneD (i := 37) rfl (by kernel_rfl) (fun K hK => ?_)
      rw [if_pos (by kernel_rfl)]
      go_simp
      refine (fis_any (some ⟨w.heap.size, 0, none⟩) (some ⟨w.heap.size + 3, 0, none⟩) (some ⟨w.heap.size + 4, 0, none⟩) 1 1 3 3 3 3 Gaw [] [] [0, 1] none 0 0 none (some ⟨W42.heap.size, 0, none⟩) 0 0 2 2 (W43) (W43).heap.size ((HG.out.below hbW43 (Nat.le_refl _)).up hbW43.size) (sl2_nil _ _) (Sl.none_ _ _ _) L3W43 (Nat.le_refl _) (by omega) (by omega) (fun l hl => by have := aw_lens l hl; omega) (by omega) (by omega) (by omega)).mono ?_
      rw [aw_is1]
      rintro e W44 ⟨rfl, hqW44⟩
      have hbW44 : Below w0.heap.size w0 W44 := hbW43.trans (hqW44.mono hbW43.size)
      have hzW44 := hbW44.size
      have L1W44 := (L1W43.below hqW44 (Nat.le_refl _)).up hqW44.size
      have F1W44 := (F1W43.below hqW44 (Nat.le_refl _)).up hqW44.size
      have L2W44 := (L2W43.below hqW44 (Nat.le_refl _)).up hqW44.size
      have F2W44 := (F2W43.below hqW44 (Nat.le_refl _)).up hqW44.size
      have L3W44 := (L3W43.below hqW44 (Nat.le_refl _)).up hqW44.size
      have kW44_0 := (hbW44.cell (p := ⟨gb, 0, none⟩) hgl).trans a0
      have kW44_1 := (hbW44.cell (p := ⟨gb, 1, none⟩) hgl).trans a1
      have kW44_2 := (hbW44.cell (p := ⟨gb, 2, none⟩) hgl).trans a2
      have kW44_3 := (hbW44.cell (p := ⟨lb, 0, none⟩) hll).trans a3
      have kW44_4 := (hbW44.cell (p := ⟨lb, 1, none⟩) hll).trans a4
      go_wp2_with fail
      refine hK.out _ _ ⟨kW44_0, kW44_1, kW44_2, kW44_3, kW44_4⟩ (fun hS => ?_)
      clear hK
      try simp only [Act.put, List.setIfInBounds_toArray, List.set_cons_zero, List.set_cons_succ]
      refine wpAnyH_takeD (i := 38) (v := ?_) rfl (by kernel_rfl) (by kernel_rfl) (by kernel_rfl) (fun _ _ _ h => h) (Or.inl ⟨by kernel_rfl, ?_⟩) hS ?_
      rotate_left 1
      · (intro w' hSw; (try dsimp only at hSw); go_simp; try (with_reducible rfl))
      try simp only [Act.put, List.setIfInBounds_toArray, List.set_cons_zero, List.set_cons_succ]
      refine wpAnyH_takeD (i := 39) (v := ?_) rfl (by kernel_rfl) (by kernel_rfl) (by kernel_rfl) (fun _ _ _ h => h) (Or.inl ⟨by kernel_rfl, ?_⟩) hS ?_
      rotate_left 1
      · (intro w' hSw; (try dsimp only at hSw); go_simp; try (with_reducible rfl))
      try simp only [Act.put, List.setIfInBounds_toArray, List.set_cons_zero, List.set_cons_succ]
      refine wpAnyH_takeD (i := 40) (v := ?_) rfl (by kernel_rfl) (by kernel_rfl) (by kernel_rfl) (fun _ _ _ h => h) (Or.inl ⟨by kernel_rfl, ?_⟩) hS ?_
      rotate_left 1
      · (intro w' hSw; (try dsimp only at hSw); go_simp; try (with_reducible rfl))
      try simp only [Act.put, List.setIfInBounds_toArray, List.set_cons_zero, List.set_cons_succ]
      refine wpAnyH_oneD (i := 41) rfl (by kernel_rfl) (fun K hK => ?_)
      rw [if_pos (by kernel_rfl)]
      go_simp
      obtain ⟨W45, hwW45⟩ : ∃ W, W = (W44).alloc (.cells #[.int .i64 0, .int .i64 2] 3) := ⟨_, rfl⟩
      have hqW45 : Below (W44).heap.size (W44) W45 := by rw [hwW45]; exact (Below.refl _ _).alloc (Nat.le_refl _) _
      have hnW45 : W45.heap[(W44).heap.size]? = some (.cells #[.int .i64 0, .int .i64 2] 3) := by rw [hwW45]; exact heap_alloc_new _ _
      have hltW45 : (W44).heap.size < W45.heap.size := by rw [hwW45]; simp
      rw [← hwW45]
      clear hwW45
      have hbW45 : Below w0.heap.size w0 W45 := hbW44.trans (hqW45.mono hbW44.size)
      have hzW45 := hbW45.size
      have L1W45 := (L1W44.below hqW45 (Nat.le_refl _)).up hqW45.size
      have F1W45 := (F1W44.below hqW45 (Nat.le_refl _)).up hqW45.size
      have L2W45 := (L2W44.below hqW45 (Nat.le_refl _)).up hqW45.size
      have F2W45 := (F2W44.below hqW45 (Nat.le_refl _)).up hqW45.size
      have L3W45 := (L3W44.below hqW45 (Nat.le_refl _)).up hqW45.size
      have L4W45 : Sl W45 W45.heap.size 1 (some ⟨W44.heap.size, 0, none⟩) 2 2 (icells [0, 2]) := sl_blk (T := 3) (cs := #[.int .i64 0, .int .i64 2]) hnW45 rfl (by decide) (by decide) hltW45
      have kW45_0 := (hbW45.cell (p := ⟨gb, 0, none⟩) hgl).trans a0
      have kW45_1 := (hbW45.cell (p := ⟨gb, 1, none⟩) hgl).trans a1
      have kW45_2 := (hbW45.cell (p := ⟨gb, 2, none⟩) hgl).trans a2
      have kW45_3 := (hbW45.cell (p := ⟨lb, 0, none⟩) hll).trans a3
      have kW45_4 := (hbW45.cell (p := ⟨lb, 1, none⟩) hll).trans a4
      refine hK.out _ _ ⟨kW45_0, kW45_1, kW45_2, kW45_3, kW45_4⟩ (fun hS => ?_)
      clear hK
      try simp only [Act.put, List.setIfInBounds_toArray, List.set_cons_zero, List.set_cons_succ]
      refine wpAnyH_takeD (i := 42) (v := ?_) rfl (by kernel_rfl) (by kernel_rfl) (by kernel_rfl) (fun _ _ _ h => h) (Or.inl ⟨by kernel_rfl, ?_⟩) hS ?_
      rotate_left 1
      · (intro w' hSw; (try dsimp only at hSw); go_simp; try (with_reducible rfl))
      try simp only [Act.put, List.setIfInBounds_toArray, List.set_cons_zero, List.set_cons_succ]
      refine wpAnyH_oneD (i := 43) rfl (by kernel_rfl) (fun K hK => ?_)
      rw [if_pos (by kernel_rfl)]
      go_simp
      refine (fis_any (some ⟨w.heap.size, 0, none⟩) (some ⟨w.heap.size + 3, 0, none⟩) (some ⟨w.heap.size + 4, 0, none⟩) 1 1 3 3 3 3 Gaw [] [] [0, 2] none 0 0 none (some ⟨W44.heap.size, 0, none⟩) 0 0 2 2 (W45) (W45).heap.size ((HG.out.below hbW45 (Nat.le_refl _)).up hbW45.size) (sl2_nil _ _) (Sl.none_ _ _ _) L4W45 (Nat.le_refl _) (by omega) (by omega) (fun l hl => by have := aw_lens l hl; omega) (by omega) (by omega) (by omega)).mono ?_
      rw [aw_is2]
      rintro e W46 ⟨rfl, hqW46⟩
      have hbW46 : Below w0.heap.size w0 W46 := hbW45.trans (hqW46.mono hbW45.size)
      have hzW46 := hbW46.size
      have L1W46 := (L1W45.below hqW46 (Nat.le_refl _)).up hqW46.size
      have F1W46 := (F1W45.below hqW46 (Nat.le_refl _)).up hqW46.size
      have L2W46 := (L2W45.below hqW46 (Nat.le_refl _)).up hqW46.size
      have F2W46 := (F2W45.below hqW46 (Nat.le_refl _)).up hqW46.size
      have L3W46 := (L3W45.below hqW46 (Nat.le_refl _)).up hqW46.size
      have L4W46 := (L4W45.below hqW46 (Nat.le_refl _)).up hqW46.size
      have kW46_0 := (hbW46.cell (p := ⟨gb, 0, none⟩) hgl).trans a0
      have kW46_1 := (hbW46.cell (p := ⟨gb, 1, none⟩) hgl).trans a1
      have kW46_2 := (hbW46.cell (p := ⟨gb, 2, none⟩) hgl).trans a2
      have kW46_3 := (hbW46.cell (p := ⟨lb, 0, none⟩) hll).trans a3
      have kW46_4 := (hbW46.cell (p := ⟨lb, 1, none⟩) hll).trans a4
      go_wp2_with fail
      refine hK.out _ _ ⟨kW46_0, kW46_1, kW46_2, kW46_3, kW46_4⟩ (fun hS => ?_)
      clear hK
      try simp only [Act.put, List.setIfInBounds_toArray, List.set_cons_zero, List.set_cons_succ]
      refine wpAnyH_takeD (i := 44) (v := ?_) rfl (by kernel_rfl) (by kernel_rfl) (by kernel_rfl) (fun _ _ _ h => h) (Or.inl ⟨by kernel_rfl, ?_⟩) hS ?_
      rotate_left 1
      · (intro w' hSw; (try dsimp only at hSw); go_simp; try (with_reducible rfl))
      try simp only [Act.put, List.setIfInBounds_toArray, List.set_cons_zero, List.set_cons_succ]
      refine wpAnyH_takeD (i := 45) (v := ?_) rfl (by kernel_rfl) (by kernel_rfl) (by kernel_rfl) (fun _ _ _ h => h) (Or.inl ⟨by kernel_rfl, ?_⟩) hS ?_
      rotate_left 1
      · (intro w' hSw; (try dsimp only at hSw); go_simp; try (with_reducible rfl))
      try simp only [Act.put, List.setIfInBounds_toArray, List.set_cons_zero, List.set_cons_succ]
      refine wpAnyH_takeD (i := 46) (v := ?_) rfl (by kernel_rfl) (by kernel_rfl) (by kernel_rfl) (fun _ _ _ h => h) (Or.inl ⟨by kernel_rfl, ?_⟩) hS ?_
      rotate_left 1
      · (intro w' hSw; (try dsimp only at hSw); go_simp; try (with_reducible rfl))
      try simp only [Act.put, List.setIfInBounds_toArray, List.set_cons_zero]
      refine wpAnyH_done (by kernel_rfl) ?_ _
      go_wp2
      go_ret
      exact ⟨rfl, HBW.out.trans (hbW46.mono HBW.out.size)⟩
end Go.Proofs.Ytfpncpjdmgfkbaa
