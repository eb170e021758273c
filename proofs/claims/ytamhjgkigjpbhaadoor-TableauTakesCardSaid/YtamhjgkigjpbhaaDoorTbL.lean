/- The walk of (*tableau.maker).number (layer 29). -/
import Derived.Test.YtamhjgkigjpbhaaDoorTbK
import Derived.Test.YtamhjgkigjpbhaaDoorMe
namespace Go.Proofs.YtamhjgkigjpbhaaDoor
open Go.RowKit Go.Maps

theorem sliceANd : SliceT Tryd.prog 26 43 4 48 :=
  SliceT.mk (z := .agg #[.int .u64 0, .int .u64 0, .int .u64 0, .slice none 0 0]) Tryd.underlying26 (by kernel_rfl) (by decide) (by decide)
theorem box6 {w : World} {b t : Nat} {p q r s u v : Value} (h : w.heap[b]? = some (.cells #[p, q, r, s, u, v] t (0, 0))) : w.cell? ⟨b, 0, none⟩ = some p ∧ w.cell? ⟨b, 1, none⟩ = some q ∧ w.cell? ⟨b, 2, none⟩ = some r ∧ w.cell? ⟨b, 3, none⟩ = some s ∧ w.cell? ⟨b, 4, none⟩ = some u ∧ w.cell? ⟨b, 5, none⟩ = some v := by
  refine ⟨?_, ?_, ?_, ?_, ?_, ?_⟩ <;> (rw [cell_of_row _ _ _ _ _ (0, 0) h]; rfl)
theorem box4' {w : World} {b t : Nat} {p q r s : Value} (h : w.heap[b]? = some (.cells #[p, q, r, s] t (0, 0))) : w.cell? ⟨b, 0, none⟩ = some p ∧ w.cell? ⟨b, 1, none⟩ = some q ∧ w.cell? ⟨b, 2, none⟩ = some r ∧ w.cell? ⟨b, 3, none⟩ = some s := by
  refine ⟨?_, ?_, ?_, ?_⟩ <;> (rw [cell_of_row _ _ _ _ _ (0, 0) h]; rfl)
/-- What number leaves. -/
def NPost (n0 B kb nb ob : Nat) (Af : Option Addr) (cf : Nat) (f : List Nd) (sets : Int) (w : World) (L : List Cov) (p : Nat) (rows : List (List Nat)) (vi vn : Value) (c : Cov) (en : Ending) (w' : World) : Prop :=
  ∃ vn', en = .returned (.int .i64 ((addC L c).idxOf c : Nat)) ∧ TS n0 B kb nb ob Af cf f sets w' (addC L c) p rows vi vn' ∧ Tch (Tk kb nb ob vn) w w' ∧ ∀ i, vn'.ownBlock = some i → i < w.heap.size → vn.ownBlock = some i
set_option maxHeartbeats 4000000 in
set_option maxRecDepth 100000 in
theorem number_any (n0 B kb nb ob : Nat) (Af : Option Addr) (cf : Nat) (f : List Nd) (sets : Int) (w : World) (L : List Cov) (p : Nat) (rows : List (List Nat)) (vi vn : Value) (c : Cov) (E1 : Option Addr) (e1 : Nat) (E2 : Option Addr) (e2 : Nat)
    (h : TS n0 B kb nb ob Af cf f sets w L p rows vi vn) (hr : CovRd B w c E1 e1 E2 e2) (hok : CovOk f.length c) (hT : TzTab w) (hfl : f.length ≤ 1000) (hL : L.length ≤ 1000) :
    Calls Tryd.prog 36 #[.pointer (some ⟨kb, 0, none⟩), .agg #[.int .u64 (c.1 : Int), .int .u64 (c.2.1 : Int), .slice E1 (onL c.2.2.1).length e1, .slice E2 (onL c.2.2.2).length e2]] w (NPost n0 B kb nb ob Af cf f sets w L p rows vi vn c) := by
  have hb0 : Below w.heap.size w (w.alloc (.cells #[.int .u64 (c.1 : Int), .int .u64 (c.2.1 : Int), .slice E1 (onL c.2.2.1).length e1, .slice E2 (onL c.2.2.2).length e2] 57)) := (Below.refl _ _).alloc (Nat.le_refl _) _
  have hx0 := heap_alloc_new w (.cells #[.int .u64 (c.1 : Int), .int .u64 (c.2.1 : Int), .slice E1 (onL c.2.2.1).length e1, .slice E2 (onL c.2.2.2).length e2] 57)
  have hz0 : (w.alloc (.cells #[.int .u64 (c.1 : Int), .int .u64 (c.2.1 : Int), .slice E1 (onL c.2.2.1).length e1, .slice E2 (onL c.2.2.2).length e2] 57)).heap.size = w.heap.size + 1 := by simp
  obtain ⟨W0, hW0⟩ : ∃ W0, w.alloc (.cells #[.int .u64 (c.1 : Int), .int .u64 (c.2.1 : Int), .slice E1 (onL c.2.2.1).length e1, .slice E2 (onL c.2.2.2).length e2] 57) = W0 := ⟨_, rfl⟩
  rw [hW0] at hb0 hx0 hz0
  have HW0 := Lib.hid hW0
  clear hW0
  have hle1 : (onL c.2.2.1).length ≤ 1000 := Nat.le_trans (onL_len _) (by rw [hok.l1]; omega)
  have hle2 : (onL c.2.2.2).length ≤ 1000 := Nat.le_trans (onL_len _) (by rw [hok.l2]; omega)
  have hrd0 : CovRd B W0 c E1 e1 E2 e2 := hr.keep (Tch.of_below hb0) (SpB.of (spares_new w _))
  have HSD := Lib.hid (said_any c.1 c.2.1 hok.txt.need hok.txt.ban E1 e1 E2 e2 (onL c.2.2.1) (onL c.2.2.2) W0 (tz_below hT hb0) hrd0.1.t.sl hrd0.2.t.sl hok.txt.next hok.txt.now hle1 hle2)
  obtain ⟨k0, k1, k2, k3⟩ := box4' hx0
  have HT := Lib.hid h
  have HOK := Lib.hid hok
  have HRD := Lib.hid hr
  clear h hok hr hT
  go_enter Tryd.func36, Tryd.ntmps36
  go_wp2_with fail
  rw [HW0.out]
  refine Calls.mono HSD.out ?_
  rintro e w1 ⟨rfl, hb1⟩
  have hb01 : Below w.heap.size w w1 := hb0.trans (hb1.mono (by omega))
  have hx1 := (hb1.block w.heap.size (by omega)).trans hx0
  have HT1 := Lib.hid (HT.out.below hb01)
  have HRD1 := Lib.hid (HRD.out.keep (Tch.of_below hb01) (SpB.of (spares_new w _)))
  obtain ⟨b0, b1, b2, b3, b4, b5⟩ := box6 HT1.out.bk
  obtain ⟨gn, hgn, hgn2⟩ := HT1.out.num
  have hlk := hgn.look true strKeyed Tryd.underlying51 (by kernel_rfl) (key_kS HOK.out (by omega)) (z := .int .i64 0)
  rw [hgn2 c HOK.out] at hlk
  have hst : strOfNums (hexL c.1 ++ 32 :: (hexL c.2.1 ++ 59 :: (numsS (onL c.2.2.1) ++ 59 :: numsS (onL c.2.2.2)))) = strOfNums (saidS c) := rfl
  rw [hst]
  obtain ⟨S, hS⟩ : ∃ S, strOfNums (saidS c) = S := ⟨_, rfl⟩
  rw [hS] at hlk ⊢
  have HS := Lib.hid hS
  clear hst hS k0 k1 k2 k3
  by_cases hm : c ∈ L
  · rw [if_pos hm] at hlk
    simp only [Option.getD_some, Option.isSome_some, if_true] at hlk
    clear hgn hgn2
    go_wp2_with fail
    go_ret
    have ha : addC L c = L := by unfold addC; rw [if_pos hm]
    refine ⟨vn, by rw [ha]; rfl, by rw [ha]; exact HT.out.below hb01, (Tch.of_below hb01).mono (fun i hi e => by omega), fun i hi _ => hi⟩
  · rw [if_neg hm] at hlk
    simp only [Option.getD_none, Option.isSome_none, if_true] at hlk
    have HN := Lib.hid hgn
    have HN2 := Lib.hid hgn2
    clear hgn hgn2
    obtain ⟨xs0, hxs0, hnd0⟩ := HT1.out.nds
    obtain ⟨An, cn, rfl, hsn⟩ := own_sl hxs0
    have HXS := Lib.hid hxs0
    have HND := Lib.hid hnd0
    clear hsn hxs0 hnd0
    obtain ⟨wd, hwd⟩ : ∃ wd, w1.drew = wd := ⟨_, rfl⟩
    have hbd : Below w1.heap.size w1 wd := by rw [← hwd]; exact (Below.refl _ _).drew
    have HWD := Lib.hid hwd
    have tnb : ∀ {a b : World} {k : Nat}, k = nb ∨ k = ob → a.grownBy b (some k) → Tch (fun k => k = nb ∨ k = ob) a b := fun hk hg => (Tch.of_grown hg).mono (fun i _ e => by injection e with e; rw [← e]; exact hk)
    have td : Tch (fun k => k = nb ∨ k = ob) w1 wd := (Tch.of_below hbd).mono (fun i hi e => by omega)
    obtain ⟨st1, w2, hr2, hg2, hst1⟩ := (HN.out.blk (w' := wd) (by rw [← hwd]; rfl)).entry strKeyed Tryd.underlying51 (z := .int .i64 0) (fun u => by kernel_rfl) (by unfold maxLen; omega) (key_kS HOK.out (by omega))
    obtain ⟨w3, hr3, hm3, hg3⟩ := hst1 w2 (.int .i64 (L.length : Nat)) rfl
    obtain ⟨go, hgo, hgo2⟩ := HT1.out.opn
    have hne := HT1.out.lt.2.2.2.2
    have t2 : Tch (fun k => k = nb ∨ k = ob) w1 w2 := td.trans (tnb (.inl rfl) hg2) (fun _ _ h => h)
    have t3 : Tch (fun k => k = nb ∨ k = ob) w1 w3 := t2.trans (tnb (.inl rfl) hg3) (fun _ _ h => h)
    have tn3 : Tch (fun k => k = nb) w1 w3 := (((Tch.of_below hbd).mono (fun i hi e => by omega)).trans ((Tch.of_grown hg2).mono (fun i _ e => by injection e with e; exact e.symm)) (fun _ _ h => h)).trans ((Tch.of_grown hg3).mono (fun i _ e => by injection e with e; exact e.symm)) (fun _ _ h => h)
    obtain ⟨st2, w4, hr4, hg4, hst2⟩ := (hgo.keep tn3 (fun e => hne e.symm)).entry intKeyed Tryd.underlying52 (z := .agg #[.int .u64 0, .int .u64 0, .slice none 0 0, .slice none 0 0]) (fun u => by kernel_rfl) (by unfold maxLen; omega) (keyNat (q := L.length) (by omega))
    obtain ⟨w5, hr5, hm5, hg5⟩ := hst2 w4 (.agg #[.int .u64 (c.1 : Int), .int .u64 (c.2.1 : Int), .slice E1 (onL c.2.2.1).length e1, .slice E2 (onL c.2.2.2).length e2]) rfl
    have t4 : Tch (fun k => k = nb ∨ k = ob) w1 w4 := t3.trans (tnb (.inr rfl) hg4) (fun _ _ h => h)
    have t5 : Tch (fun k => k = nb ∨ k = ob) w1 w5 := t4.trans (tnb (.inr rfl) hg5) (fun _ _ h => h)
    have hnc : ∀ {k t : Nat} {cs : Array Value}, w1.heap[k]? = some (.cells cs t (0, 0)) → ¬ (k = nb ∨ k = ob) := fun hk e => by rcases e with e | e; exact HT1.out.nb_cells hk e; exact HT1.out.ob_cells hk e
    have spi : SpB (fun k => k = nb ∨ k = ob) w1 B := fun k cs _ hk e => hnc hk e
    have hNum5 : NumOk w5 nb f.length (L ++ [c]) := num_put HN2.out HOK.out hm (fun g' hg' => (hm3 g' hg').keep (((Tch.of_grown hg4).mono (fun i _ e => by injection e with e; exact e.symm) : Tch (fun k => k = ob) w3 w4).trans ((Tch.of_grown hg5).mono (fun i _ e => by injection e with e; exact e.symm)) (fun _ _ h => h)) hne)
    have hOpn5 : OpnOk B w5 ob p (L ++ [c]) := opn_put (fun q d hq hd => by
      obtain ⟨F1, f1, F2, f2, a, b⟩ := hgo2 q d hq hd
      exact ⟨F1, f1, F2, f2, a, b.keep t5 spi⟩) (HRD1.out.keep t5 spi) (fun g' hg' => hm5 g' hg')
    have hxs5 := own_tch HXS.out t5 (fun g hg => by obtain ⟨cs, hc⟩ := own_cells HXS.out hg; exact hnc hc)
    have hnd5 := HND.out.keep t5 spi
    have hbk1 := HT1.out.bk
    have hbx1 := hx1
    have hbk2 := t2.blk hbk1 (hnc hbk1)
    have hbx2 := t2.blk hbx1 (hnc hbx1)
    have hbk3 := t3.blk hbk1 (hnc hbk1)
    have hbx3 := t3.blk hbx1 (hnc hbx1)
    have hbk4 := t4.blk hbk1 (hnc hbk1)
    have hbx4 := t4.blk hbx1 (hnc hbx1)
    have hbk5 := t5.blk hbk1 (hnc hbk1)
    have hbx5 := t5.blk hbx1 (hnc hbx1)
    have hfs5 : Sl w5 w5.heap.size 2 Af f.length cf (ncells f) := ((HT1.out.fs.tch t5 HT1.out.lt.1 (fun b hb e => by have := HT1.out.lt; rcases e with e | e <;> omega)).up (by have := t5.size; have := HT1.out.lt.1; omega))
    have hrd5 := HRD1.out.keep t5 spi
    have hn05 : n0 ≤ w5.heap.size := by have := t5.size; have := HT1.out.lt.1; omega
    obtain ⟨we, hwe⟩ : ∃ we, w5.drew = we := ⟨_, rfl⟩
    have hbe : Below w5.heap.size w5 we := by rw [← hwe]; exact (Below.refl _ _).drew
    have HWE := Lib.hid hwe
    have HM := Lib.hid (meets_any Af cf f (c.1 : Int) (c.2.1 : Int) (.slice E1 (onL c.2.2.1).length e1) E2 (onL c.2.2.2).length e2 (natI (onL c.2.2.2)) we w5.heap.size (hfs5.below hbe (Nat.le_refl _)) (hrd5.2.t.sl.below hbe (Nat.le_refl _)) (by simp [natI]) hbe.size (by omega) (by omega))
    have HXS5 := Lib.hid hxs5
    have HND5 := Lib.hid hnd5
    have HN5 := Lib.hid hNum5
    have HO5 := Lib.hid hOpn5
    have HT5 := Lib.hid t5
    clear hwd hwe hm3 hm5 hst1 hst2 hgo hgo2 td t2 t3 tn3 t4 t5 hnc spi hNum5 hOpn5 hxs5 hnd5 hfs5 hrd5 tnb hg2 hg3 hg4 hg5
    rw [HS.out] at hr2
    unfold goInt at hr2 hr3 hr4 hr5
    generalize (gn (kS c)).getD (.int .i64 0) = z1 at hr2
    generalize (go (.int .i64 (L.length : Nat))).getD (.agg #[.int .u64 0, .int .u64 0, .slice none 0 0, .slice none 0 0]) = z2 at hr4
    go_wp2_with fail
    refine wp_region_held_drew (S := fun w' => w'.cell? ⟨kb, 1, none⟩ = some (.map (some nb)) ∧ w'.cell? ⟨kb, 2, none⟩ = some (.map (some ob)) ∧ w'.cell? ⟨w.heap.size, 0, none⟩ = some (.int .u64 (c.1 : Int)) ∧ w'.cell? ⟨w.heap.size, 1, none⟩ = some (.int .u64 (c.2.1 : Int)) ∧ w'.cell? ⟨w.heap.size, 2, none⟩ = some (.slice E1 (onL c.2.2.1).length e1) ∧ w'.cell? ⟨w.heap.size, 3, none⟩ = some (.slice E2 (onL c.2.2.2).length e2)) (by kernel_rfl) ⟨(box6 hbk1).2.1, (box6 hbk1).2.2.1, box4' hbx1⟩ (fun hS => ?_)
    refine wpAnyH_takeD (i := 0) (v := ?_) rfl (by kernel_rfl) (by kernel_rfl) (by kernel_rfl) (fun _ _ _ h => h) (Or.inl ⟨by kernel_rfl, ?_⟩) hS ?_
    rotate_left 1
    · (intro w' hSw; (try dsimp only at hSw); go_simp; try (with_reducible rfl))
    try simp only [Act.put, List.setIfInBounds_toArray, List.set_cons_zero, List.set_cons_succ]
    refine wpAnyH_takeD (i := 1) (v := ?_) rfl (by kernel_rfl) (by kernel_rfl) (by kernel_rfl) (fun _ _ _ h => h) (Or.inl ⟨by kernel_rfl, ?_⟩) hS ?_
    rotate_left 1
    · (intro w' hSw; (try dsimp only at hSw); go_simp; try (with_reducible rfl))
    try simp only [Act.put, List.setIfInBounds_toArray, List.set_cons_zero, List.set_cons_succ]
    refine wpAnyH_takeD (i := 2) (v := ?_) rfl (by kernel_rfl) (by kernel_rfl) (by kernel_rfl) (fun _ _ _ h => h) (Or.inl ⟨by kernel_rfl, ?_⟩) hS ?_
    rotate_left 1
    · (intro w' hSw; (try dsimp only at hSw); go_simp; try (with_reducible rfl))
    try simp only [Act.put, List.setIfInBounds_toArray, List.set_cons_zero, List.set_cons_succ]
    refine wpAnyH_takeD (i := 3) (v := ?_) rfl (by kernel_rfl) (by kernel_rfl) (by kernel_rfl) (fun _ _ _ h => h) (Or.inl ⟨by kernel_rfl, ?_⟩) hS ?_
    rotate_left 1
    · (intro w' hSw; (try dsimp only at hSw); go_simp; try (with_reducible rfl))
    try simp only [Act.put, List.setIfInBounds_toArray, List.set_cons_zero, List.set_cons_succ]
    refine wpAnyH_takeD (i := 4) (v := ?_) rfl (by kernel_rfl) (by kernel_rfl) (by kernel_rfl) (fun _ _ _ h => h) (Or.inl ⟨by kernel_rfl, ?_⟩) hS ?_
    rotate_left 1
    · (intro w' hSw; (try dsimp only at hSw); go_simp; try (with_reducible rfl))
    try simp only [Act.put, List.setIfInBounds_toArray, List.set_cons_zero, List.set_cons_succ]
    refine wpAnyH_takeD (i := 5) (v := ?_) rfl (by kernel_rfl) (by kernel_rfl) (by kernel_rfl) (fun _ _ _ h => h) (Or.inl ⟨by kernel_rfl, ?_⟩) hS ?_
    rotate_left 1
    · (intro w' hSw; (try dsimp only at hSw); go_simp; try (with_reducible rfl))
    try simp only [Act.put, List.setIfInBounds_toArray, List.set_cons_zero, List.set_cons_succ]
    refine wpAnyH_takeD (i := 6) (v := ?_) rfl (by kernel_rfl) (by kernel_rfl) (by kernel_rfl) (fun _ _ _ h => h) (Or.inl ⟨by kernel_rfl, ?_⟩) hS ?_
    rotate_left 1
    · (intro w' hSw; (try dsimp only at hSw); go_simp; try (with_reducible rfl))
    try simp only [Act.put, List.setIfInBounds_toArray, List.set_cons_zero, List.set_cons_succ]
    refine wpAnyH_takeD (i := 7) (v := ?_) rfl (by kernel_rfl) (by kernel_rfl) (by kernel_rfl) (fun _ _ _ h => h) (Or.inl ⟨by kernel_rfl, ?_⟩) hS ?_
    rotate_left 1
    · (intro w' hSw; (try dsimp only at hSw); go_simp; try (with_reducible rfl))
    try simp only [Act.put, List.setIfInBounds_toArray, List.set_cons_zero, List.set_cons_succ]
    refine wpAnyH_takeD (i := 8) (v := ?_) rfl (by kernel_rfl) (by kernel_rfl) (by kernel_rfl) (fun _ _ _ h => h) (Or.inl ⟨by kernel_rfl, ?_⟩) hS ?_
    rotate_left 1
    · (intro w' hSw; (try dsimp only at hSw); go_simp; try (with_reducible rfl))
    try simp only [Act.put, List.setIfInBounds_toArray, List.set_cons_zero, List.set_cons_succ]
    refine wpAnyH_takeD (i := 9) (v := ?_) rfl (by kernel_rfl) (by kernel_rfl) (by kernel_rfl) (fun _ _ _ h => h) (Or.inl ⟨by kernel_rfl, ?_⟩) hS ?_
    rotate_left 1
    · (intro w' hSw; (try dsimp only at hSw); go_simp; try (with_reducible rfl))
    try simp only [Act.put, List.setIfInBounds_toArray, List.set_cons_zero, List.set_cons_succ]
    refine wpAnyH_takeD (i := 10) (v := ?_) rfl (by kernel_rfl) (by kernel_rfl) (by kernel_rfl) (fun _ _ _ h => h) (Or.inl ⟨by kernel_rfl, ?_⟩) hS ?_
    rotate_left 1
    · (intro w' hSw; (try dsimp only at hSw); go_simp; try (with_reducible rfl))
    try simp only [Act.put, List.setIfInBounds_toArray, List.set_cons_zero, List.set_cons_succ]
    refine wpAnyH_takeD (i := 11) (v := ?_) rfl (by kernel_rfl) (by kernel_rfl) (by kernel_rfl) (fun _ _ _ h => h) (Or.inl ⟨by kernel_rfl, ?_⟩) hS ?_
    rotate_left 1
    · (intro w' hSw; (try dsimp only at hSw); go_simp; try (with_reducible rfl))
    try simp only [Act.put, List.setIfInBounds_toArray, List.set_cons_zero, List.set_cons_succ]
    refine wpAnyH_oneD (i := 12) rfl (by kernel_rfl) (fun K hK => ?_)
    rw [HWD.out]
    go_simp
    try rw [hr2]
    try dsimp only [Oper.upon, Result.andThen]
    refine hK.out _ _ ⟨(box6 hbk2).2.1, (box6 hbk2).2.2.1, box4' hbx2⟩ (fun hS => ?_)
    clear hK
    try simp only [Act.put, List.setIfInBounds_toArray, List.set_cons_zero, List.set_cons_succ]
    refine wpAnyH_takeD (i := 13) (v := ?_) rfl (by kernel_rfl) (by kernel_rfl) (by kernel_rfl) (fun _ _ _ h => h) (Or.inl ⟨by kernel_rfl, ?_⟩) hS ?_
    rotate_left 1
    · (intro w' hSw; (try dsimp only at hSw); go_simp; try (with_reducible rfl))
    try simp only [Act.put, List.setIfInBounds_toArray, List.set_cons_zero, List.set_cons_succ]
    refine wpAnyH_oneD (i := 14) rfl (by kernel_rfl) (fun K hK => ?_)
    go_simp
    try rw [hr3]
    try dsimp only [Oper.upon, Result.andThen]
    refine hK.out _ _ ⟨(box6 hbk3).2.1, (box6 hbk3).2.2.1, box4' hbx3⟩ (fun hS => ?_)
    clear hK
    try simp only [Act.put, List.setIfInBounds_toArray, List.set_cons_zero, List.set_cons_succ]
    refine wpAnyH_oneD (i := 15) rfl (by kernel_rfl) (fun K hK => ?_)
    go_simp
    try rw [hr4]
    try dsimp only [Oper.upon, Result.andThen]
    refine hK.out _ _ ⟨(box6 hbk4).2.1, (box6 hbk4).2.2.1, box4' hbx4⟩ (fun hS => ?_)
    clear hK
    try simp only [Act.put, List.setIfInBounds_toArray, List.set_cons_zero, List.set_cons_succ]
    refine wpAnyH_takeD (i := 16) (v := ?_) rfl (by kernel_rfl) (by kernel_rfl) (by kernel_rfl) (fun _ _ _ h => h) (Or.inl ⟨by kernel_rfl, ?_⟩) hS ?_
    rotate_left 1
    · (intro w' hSw; (try dsimp only at hSw); go_simp; try (with_reducible rfl))
    try simp only [Act.put, List.setIfInBounds_toArray, List.set_cons_zero, List.set_cons_succ]
    refine wpAnyH_oneD (i := 17) rfl (by kernel_rfl) (fun K hK => ?_)
    go_simp
    try rw [hr5]
    try dsimp only [Oper.upon, Result.andThen]
    refine hK.out _ _ ⟨(box6 hbk5).2.1, (box6 hbk5).2.2.1, box4' hbx5⟩ (fun hS => ?_)
    clear hK
    try simp only [Act.put, List.setIfInBounds_toArray, List.set_cons_zero, List.set_cons_succ]
    refine wpAnyH_done (by kernel_rfl) ?_ _
    clear hr2 hr3 hr4 hr5
    go_wp2_with fail
    refine wp_region_T (S := fun w' => w'.cell? ⟨kb, 0, none⟩ = some (.slice Af f.length cf) ∧ w'.cell? ⟨kb, 5, none⟩ = some (.slice An L.length cn) ∧ w'.cell? ⟨w.heap.size, 0, none⟩ = some (.int .u64 (c.1 : Int)) ∧ w'.cell? ⟨w.heap.size, 1, none⟩ = some (.int .u64 (c.2.1 : Int)) ∧ w'.cell? ⟨w.heap.size, 2, none⟩ = some (.slice E1 (onL c.2.2.1).length e1) ∧ w'.cell? ⟨w.heap.size, 3, none⟩ = some (.slice E2 (onL c.2.2.2).length e2)) 22 (by kernel_rfl) (⟨(box6 hbk5).1, (box6 hbk5).2.2.2.2.2, box4' hbx5⟩) (fun hS => ?_)
    refine wpAnyT_takeD (i := 0) (v := ?_) rfl (by kernel_rfl) (by kernel_rfl) (by kernel_rfl) (by kernel_rfl) (fun _ _ _ h => h) (Or.inl ⟨by kernel_rfl, ?_⟩) hS ?_
    rotate_left 1
    · (intro w' hSw; (try dsimp only at hSw); go_simp; try (with_reducible rfl))
    try simp only [Act.put, List.setIfInBounds_toArray, List.set_cons_zero, List.set_cons_succ]
    refine wpAnyT_takeD (i := 1) (v := ?_) rfl (by kernel_rfl) (by kernel_rfl) (by kernel_rfl) (by kernel_rfl) (fun _ _ _ h => h) (Or.inl ⟨by kernel_rfl, ?_⟩) hS ?_
    rotate_left 1
    · (intro w' hSw; (try dsimp only at hSw); go_simp; try (with_reducible rfl))
    try simp only [Act.put, List.setIfInBounds_toArray, List.set_cons_zero, List.set_cons_succ]
    refine wpAnyT_takeD (i := 2) (v := ?_) rfl (by kernel_rfl) (by kernel_rfl) (by kernel_rfl) (by kernel_rfl) (fun _ _ _ h => h) (Or.inl ⟨by kernel_rfl, ?_⟩) hS ?_
    rotate_left 1
    · (intro w' hSw; (try dsimp only at hSw); go_simp; try (with_reducible rfl))
    try simp only [Act.put, List.setIfInBounds_toArray, List.set_cons_zero, List.set_cons_succ]
    refine wpAnyT_takeD (i := 3) (v := ?_) rfl (by kernel_rfl) (by kernel_rfl) (by kernel_rfl) (by kernel_rfl) (fun _ _ _ h => h) (Or.inl ⟨by kernel_rfl, ?_⟩) hS ?_
    rotate_left 1
    · (intro w' hSw; (try dsimp only at hSw); go_simp; try (with_reducible rfl))
    try simp only [Act.put, List.setIfInBounds_toArray, List.set_cons_zero, List.set_cons_succ]
    refine wpAnyT_takeD (i := 4) (v := ?_) rfl (by kernel_rfl) (by kernel_rfl) (by kernel_rfl) (by kernel_rfl) (fun _ _ _ h => h) (Or.inl ⟨by kernel_rfl, ?_⟩) hS ?_
    rotate_left 1
    · (intro w' hSw; (try dsimp only at hSw); go_simp; try (with_reducible rfl))
    try simp only [Act.put, List.setIfInBounds_toArray, List.set_cons_zero, List.set_cons_succ]
    refine wpAnyT_takeD (i := 5) (v := ?_) rfl (by kernel_rfl) (by kernel_rfl) (by kernel_rfl) (by kernel_rfl) (fun _ _ _ h => h) (Or.inl ⟨by kernel_rfl, ?_⟩) hS ?_
    rotate_left 1
    · (intro w' hSw; (try dsimp only at hSw); go_simp; try (with_reducible rfl))
    try simp only [Act.put, List.setIfInBounds_toArray, List.set_cons_zero, List.set_cons_succ]
    refine wpAnyT_takeD (i := 6) (v := ?_) rfl (by kernel_rfl) (by kernel_rfl) (by kernel_rfl) (by kernel_rfl) (fun _ _ _ h => h) (Or.inl ⟨by kernel_rfl, ?_⟩) hS ?_
    rotate_left 1
    · (intro w' hSw; (try dsimp only at hSw); go_simp; try (with_reducible rfl))
    try simp only [Act.put, List.setIfInBounds_toArray, List.set_cons_zero, List.set_cons_succ]
    refine wpAnyT_takeD (i := 7) (v := ?_) rfl (by kernel_rfl) (by kernel_rfl) (by kernel_rfl) (by kernel_rfl) (fun _ _ _ h => h) (Or.inl ⟨by kernel_rfl, ?_⟩) hS ?_
    rotate_left 1
    · (intro w' hSw; (try dsimp only at hSw); go_simp; try (with_reducible rfl))
    try simp only [Act.put, List.setIfInBounds_toArray, List.set_cons_zero, List.set_cons_succ]
    refine wpAnyT_takeD (i := 8) (v := ?_) rfl (by kernel_rfl) (by kernel_rfl) (by kernel_rfl) (by kernel_rfl) (fun _ _ _ h => h) (Or.inl ⟨by kernel_rfl, ?_⟩) hS ?_
    rotate_left 1
    · (intro w' hSw; (try dsimp only at hSw); go_simp; try (with_reducible rfl))
    try simp only [Act.put, List.setIfInBounds_toArray, List.set_cons_zero, List.set_cons_succ]
    refine wpAnyT_takeD (i := 9) (v := ?_) rfl (by kernel_rfl) (by kernel_rfl) (by kernel_rfl) (by kernel_rfl) (fun _ _ _ h => h) (Or.inl ⟨by kernel_rfl, ?_⟩) hS ?_
    rotate_left 1
    · (intro w' hSw; (try dsimp only at hSw); go_simp; try (with_reducible rfl))
    try simp only [Act.put, List.setIfInBounds_toArray, List.set_cons_zero, List.set_cons_succ]
    refine wpAnyT_takeD (i := 10) (v := ?_) rfl (by kernel_rfl) (by kernel_rfl) (by kernel_rfl) (by kernel_rfl) (fun _ _ _ h => h) (Or.inl ⟨by kernel_rfl, ?_⟩) hS ?_
    rotate_left 1
    · (intro w' hSw; (try dsimp only at hSw); go_simp; try (with_reducible rfl))
    try simp only [Act.put, List.setIfInBounds_toArray, List.set_cons_zero, List.set_cons_succ]
    refine wpAnyT_takeD (i := 11) (v := ?_) rfl (by kernel_rfl) (by kernel_rfl) (by kernel_rfl) (by kernel_rfl) (fun _ _ _ h => h) (Or.inl ⟨by kernel_rfl, ?_⟩) hS ?_
    rotate_left 1
    · (intro w' hSw; (try dsimp only at hSw); go_simp; try (with_reducible rfl))
    try simp only [Act.put, List.setIfInBounds_toArray, List.set_cons_zero, List.set_cons_succ]
    refine wpAnyT_takeD (i := 12) (v := ?_) rfl (by kernel_rfl) (by kernel_rfl) (by kernel_rfl) (by kernel_rfl) (fun _ _ _ h => h) (Or.inl ⟨by kernel_rfl, ?_⟩) hS ?_
    rotate_left 1
    · (intro w' hSw; (try dsimp only at hSw); go_simp; try (with_reducible rfl))
    try simp only [Act.put, List.setIfInBounds_toArray, List.set_cons_zero, List.set_cons_succ]
    refine wpAnyT_takeD (i := 13) (v := ?_) rfl (by kernel_rfl) (by kernel_rfl) (by kernel_rfl) (by kernel_rfl) (fun _ _ _ h => h) (Or.inl ⟨by kernel_rfl, ?_⟩) hS ?_
    rotate_left 1
    · (intro w' hSw; (try dsimp only at hSw); go_simp; try (with_reducible rfl))
    try simp only [Act.put, List.setIfInBounds_toArray, List.set_cons_zero, List.set_cons_succ]
    refine wpAnyT_takeD (i := 14) (v := ?_) rfl (by kernel_rfl) (by kernel_rfl) (by kernel_rfl) (by kernel_rfl) (fun _ _ _ h => h) (Or.inl ⟨by kernel_rfl, ?_⟩) hS ?_
    rotate_left 1
    · (intro w' hSw; (try dsimp only at hSw); go_simp; try (with_reducible rfl))
    try simp only [Act.put, List.setIfInBounds_toArray, List.set_cons_zero, List.set_cons_succ]
    refine wpAnyT_oneD (i := 15) rfl (by kernel_rfl) (by decide) (fun K hK => ?_)
    go_simp
    rw [HWE.out]
    refine Calls.mono HM.out ?_
    rintro e w6 ⟨rfl, hb6'⟩
    have hb6 : Below w5.heap.size w5 w6 := hbe.trans (hb6'.mono hbe.size)
    clear hb6'
    have hbk6 := (hb6.block kb (heap_lt hbk5)).trans hbk5
    have hbx6 := (hb6.block _ (heap_lt hbx5)).trans hbx5
    dsimp only
    refine hK.out _ _ ⟨(box6 hbk6).1, (box6 hbk6).2.2.2.2.2, box4' hbx6⟩ (fun hS => ?_)
    clear hK
    try simp only [Act.put, List.setIfInBounds_toArray, List.set_cons_zero, List.set_cons_succ]
    refine wpAnyT_takeD (i := 16) (v := ?_) rfl (by kernel_rfl) (by kernel_rfl) (by kernel_rfl) (by kernel_rfl) (fun _ _ _ h => h) (Or.inl ⟨by kernel_rfl, ?_⟩) hS ?_
    rotate_left 1
    · (intro w' hSw; (try dsimp only at hSw); go_simp; try (with_reducible rfl))
    try simp only [Act.put, List.setIfInBounds_toArray, List.set_cons_zero, List.set_cons_succ]
    refine wpAnyT_oneD (i := 17) rfl (by kernel_rfl) (by decide) (fun K hK => ?_)
    go_simp
    obtain ⟨W7, hW7⟩ : ∃ V, V = w6.alloc (.cells #[.int .u64 (c.1 : Int), .int .u64 (c.2.1 : Int), .int .u64 ((meetsN f (natI (onL c.2.2.2)) : Nat) : Int), .slice none 0 0] 43) := ⟨_, rfl⟩
    have hq7 : Below w6.heap.size w6 W7 := by rw [hW7]; exact (Below.refl _ _).alloc (Nat.le_refl _) _
    have hn7 : W7.heap[w6.heap.size]? = some (.cells #[.int .u64 (c.1 : Int), .int .u64 (c.2.1 : Int), .int .u64 ((meetsN f (natI (onL c.2.2.2)) : Nat) : Int), .slice none 0 0] 43 (0, 0)) := by rw [hW7]; exact heap_alloc_new _ _
    rw [← hW7]
    clear hW7
    have hb7 : Below w5.heap.size w5 W7 := hb6.trans (hq7.mono hb6.size)
    have hbk7 := (hb7.block kb (heap_lt hbk5)).trans hbk5
    have hbx7 := (hb7.block _ (heap_lt hbx5)).trans hbx5
    have hxs7 := own_tch HXS5.out (Tch.of_below hb7) (fun g hg => by have := (HXS5.out.lt g hg).2; omega)
    have hnd7 := HND5.out.keep (Tch.of_below hb7) (SpB.of (spares_new _ _))
    refine hK.out _ _ ⟨(box6 hbk7).1, (box6 hbk7).2.2.2.2.2, box4' hbx7⟩ (fun hS => ?_)
    clear hK
    try simp only [Act.put, List.setIfInBounds_toArray, List.set_cons_zero, List.set_cons_succ]
    refine wpAnyT_oneD (i := 18) rfl (by kernel_rfl) (by decide) (fun K hK => ?_)
    refine step_push rfl (.tmp 49) (.tmp 61) 26 rfl n0 43 4 48 sliceANd _ _ _ hxs7 (by rfl) w6.heap.size #[.int .u64 (c.1 : Int), .int .u64 (c.2.1 : Int), .int .u64 ((meetsN f (natI (onL c.2.2.2)) : Nat) : Int), .slice none 0 0] (by rfl) hn7 rfl (by simp [Value.oneCell']) (by omega) (by omega) (by have := hb7.size; omega) ?_
    intro v8 W8 ho8 ht8 hat8 hne8
    obtain ⟨A8, c8, rfl, -⟩ := own_sl ho8
    have hbk8 := ht8.blk hbk7 (own_ne_blk hxs7 hbk7 (by decide))
    have hbx8 := ht8.blk hbx7 (own_ne_blk hxs7 hbx7 (by decide))
    have kf8 := frozen_of_row _ _ 5 _ _ hbk8
    obtain ⟨u0, u1, u2, u3, u4, u5⟩ := box6 hbk8
    refine hK.out _ _ ⟨u0, u5, box4' hbx8⟩ (fun hS => ?_)
    clear hK
    try simp only [Act.put, List.setIfInBounds_toArray, List.set_cons_zero, List.set_cons_succ]
    refine wpAnyT_oneD (i := 19) rfl (by kernel_rfl) (by decide) (fun K hK => ?_)
    go_simp
    refine hK.out _ _ ⟨u0, u5, box4' hbx8⟩ (fun hS => ?_)
    clear hK
    try simp only [Act.put, List.setIfInBounds_toArray, List.set_cons_zero, List.set_cons_succ]
    refine wpAnyT_oneD (i := 20) rfl (by kernel_rfl) (by decide) (fun K hK => ?_)
    go_simp
    refine hK.out _ _ ⟨u0, u5, box4' hbx8⟩ (fun hS => ?_)
    clear hK
    try simp only [Act.put, List.setIfInBounds_toArray, List.set_cons_zero, List.set_cons_succ]
    refine wpAnyT_oneD (i := 21) rfl (by kernel_rfl) (by decide) (fun K hK => ?_)
    go_simp
    refine hK.out _ _ ⟨u0, u5, box4' hbx8⟩ (fun hS => ?_)
    clear hK
    try simp only [Act.put, List.setIfInBounds_toArray, List.set_cons_zero, List.set_cons_succ]
    refine wpAnyT_endD rfl (by kernel_rfl) (by kernel_rfl) (fun K hK => ?_)
    go_simp
    refine hK.out _ _ ?_
    clear hK
    go_wp2_with fail
    go_ret
    obtain ⟨hA, hB, hC⟩ := HT1.out.tell HOK.out HT5.out HN5.out HO5.out hb7 hxs7 hnd7 rfl ho8 ht8 hat8
    have ha : addC L c = L ++ [c] := by unfold addC; rw [if_neg hm]
    refine ⟨.slice A8 (L.length + 1) c8, ?_, by rw [ha]; exact hA, ((Tch.of_below hb01).mono (fun i hi e => by omega)).trans hB (fun _ _ h => h), fun i hi hlt => hC i hi (by have := hb01.size; omega)⟩
    rw [ha, List.idxOf_append, if_neg hm]
    simp
end Go.Proofs.YtamhjgkigjpbhaaDoor
