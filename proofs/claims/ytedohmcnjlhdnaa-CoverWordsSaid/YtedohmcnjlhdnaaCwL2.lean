/- CoverOf, CoverOnce. -/
import Derived.Test.YtedohmcnjlhdnaaCwL1
namespace Go.Proofs.Ytedohmcnjlhdnaa
open Go.RowKit

theorem good_parts {f : List Nd} {ps : List Int} (h : goodB f ps = true) : isN f = true ∧ f.length ≤ 50 ∧ (∀ x ∈ ps.map Int.toNat, x < f.length) ∧ natI (ps.map Int.toNat) = ps := by
  unfold goodB at h
  simp only [Bool.and_eq_true, decide_eq_true_eq] at h
  have hall := h.2
  refine ⟨h.1.1, h.1.2, fun j hj => ?_, ?_⟩
  · obtain ⟨z, hz, rfl⟩ := List.mem_map.1 hj
    have := List.all_eq_true.1 hall z hz
    simp [partB] at this
    omega
  · unfold natI
    rw [List.map_map]
    refine (List.map_congr_left (fun z hz => ?_)).trans (List.map_id ps)
    have := List.all_eq_true.1 hall z hz
    simp [partB] at this
    simp; omega
theorem askedL_covN (f : List Nd) (ps : List Int) : ∀ c ∈ askedL f ps, CovN f.length c := by
  intro c hc
  unfold askedL at hc
  split at hc
  · next h =>
    obtain ⟨h1, _, h2, _⟩ := good_parts h
    obtain ⟨_, _, a, b⟩ := (coversL_rises (kidsOk_of h1) h2).2 c hc
    exact ⟨a, b⟩
  · cases hc
theorem few_of {f : List Nd} {ps : List Int} (h9 : f.countP brN ≤ 9) : goodB f ps = true → (leaves f (f.length + 1) (startW f.length (ps.map Int.toNat))).length ≤ 1000000 := fun h => by
  obtain ⟨h1, _, h2, _⟩ := good_parts h
  exact leaves_few h1 (startW_ok h2) h9
theorem askedL_len {f : List Nd} {ps : List Int} (h9 : f.countP brN ≤ 9) : (askedL f ps).length ≤ 1000000 := by
  unfold askedL
  split
  · next h =>
    have := onceC_len ((leaves f (f.length + 1) (startW f.length (ps.map Int.toNat))).map Way.cov) []
    rw [List.length_map] at this
    have h2 := few_of (ps := ps) h9 h
    unfold coversL
    simp at this
    omega
  · simp
set_option maxHeartbeats 4000000 in
set_option maxRecDepth 100000 in
theorem CoverOf_any (A : Option Addr) (c : Nat) (f : List Nd) (Ap : Option Addr) (np cp : Nat) (ps : List Int) (w : World) (hf : Sl w w.heap.size 2 A f.length c (ncells f)) (hp : Sl w w.heap.size 1 Ap np cp (icells ps)) (hnp : np = ps.length) (hl : f.length ≤ 8796093022208) (hpl : np ≤ 17592186044416) :
    Calls Try.prog 9 #[.slice A f.length c, .slice Ap np cp] w (Tru w true) := by
  have HFAR := Lib.hid (far28_any A c f Ap np cp w w.heap.size hf (Nat.le_refl _) hl hpl)
  cases hfar : farB f np
  case' true =>
    rw [hfar] at HFAR
    clear hf hp hfar hnp
    go_enter Try.func9, Try.ntmps9
    go_wp2_with fail
    refine Calls.mono HFAR.out ?_
    rintro e w1 ⟨rfl, hb1⟩
    go_wp2_with fail
    refine Calls.mono (lives28_any w1) ?_
    rintro e w2 ⟨rfl, hb2⟩
    go_wp2_with fail
    go_ret
    exact ⟨rfl, hb1.trans (hb2.mono hb1.size)⟩
  rw [hfar] at HFAR
  obtain ⟨h9, hf2, hp6⟩ := far_no28 hfar
  have HOF := Lib.hid (fun (w' : World) (hb : Below w.heap.size w w') => of_any A c f Ap np cp ps w' ((hf.below hb (Nat.le_refl _)).up hb.size) ((hp.below hb (Nat.le_refl _)).up hb.size) hnp (by omega) (by omega) (few_of h9))
  have HOR := Lib.hid (fun (w' : World) (hb : Below w.heap.size w w') => ofR_any A c f Ap np cp ps w' ((hf.below hb (Nat.le_refl _)).up hb.size) ((hp.below hb (Nat.le_refl _)).up hb.size) hnp (by omega) (by omega) (few_of h9))
  have HCN := Lib.hid (askedL_covN f ps)
  have hTl := askedL_len (ps := ps) h9
  generalize askedL f ps = T at *
  clear hf hp hfar hnp h9
  go_enter Try.func9, Try.ntmps9
  go_wp2_with fail
  refine Calls.mono HFAR.out ?_
  rintro e w1 ⟨rfl, hb1⟩
  have hz1 := hb1.size
  have HO1 := Lib.hid (HOF.out w1 hb1)
  go_wp2_with fail
  refine Calls.mono HO1.out ?_
  rintro e w2 ⟨va, xa, rfl, howa, hca, hb2⟩
  obtain ⟨AA, cA, rfl, hsa⟩ := own_sl howa
  have hb02 := hb1.trans (hb2.mono hz1)
  have HO2 := Lib.hid (HOR.out w2 hb02)
  have hcapa := hsa.cap
  clear howa HO1 HOF HOR
  go_wp2_with fail
  refine Calls.mono HO2.out ?_
  rintro e w9 ⟨vb, xb, rfl, howb, hcb, hb9⟩
  obtain ⟨AB, cB, rfl, hsb⟩ := own_sl howb
  have hb09 := hb02.trans (hb9.mono hb02.size)
  have hz9 := hb09.size
  have hcapb := hsb.cap
  have HSA := Lib.hid ((hsa.below hb9 (Nat.le_refl _)).up hb9.size)
  have HCA := Lib.hid (hca.keep (Tch.of_below hb9) (spares_new _ _))
  have HSB := Lib.hid hsb
  have HCB := Lib.hid hcb
  clear hsa hca hsb hcb howb HO2 hb9 hb2 hb1 hb02
  go_wp2_with fail
  go_loopw [25] (fun i wr => ∃ k : Nat, k ≤ T.length ∧ i = .int .i64 k ∧ Below w9.heap.size w9 wr) (fun i _ => T.length - (intOf i).toNat)
  case atStart => exact ⟨0, by omega, rfl, Below.refl _ _⟩
  case round =>
    obtain ⟨i, hi, rfl, hbr⟩ := hrel
    have hsr := hbr.size
    by_cases hlt : i < T.length
    · obtain ⟨ba, oa, E1, e1, E2, e2, rfl, hbal, p0, p1, p2, p3, tm1, tm2⟩ := rd_cov (HSA.out.below hbr (Nat.le_refl _)).rd (HCA.out.keep (Tch.of_below hbr) (spares_new _ _)) (List.getElem?_eq_getElem hlt)
      obtain ⟨bb, ob, D1, d1, D2, d2, rfl, hbbl, q0, q1, q2, q3, tn1, tn2⟩ := rd_cov (HSB.out.below hbr (Nat.le_refl _)).rd (HCB.out.keep (Tch.of_below hbr) (spares_new _ _)) (List.getElem?_eq_getElem hlt)
      have hoi := HCN.out T[i] (List.getElem_mem hlt)
      have hle1 : (onL T[i].2.2.1).length ≤ 1000 := Nat.le_trans (onL_len _) (by rw [hoi.1]; omega)
      have hle2 : (onL T[i].2.2.2).length ≤ 1000 := Nat.le_trans (onL_len _) (by rw [hoi.2]; omega)
      generalize T[i] = x at *
      have wi : IntKind.i64.wrap ((i : Int) + 1) = i + 1 := by rw [IntKind.wrap_i64]; omega
      have hbd : Below wr.heap.size wr wr.drew := Below.drew (Below.refl _ _)
      obtain ⟨wd, hwd⟩ : ∃ wd, wr.drew = wd := ⟨_, rfl⟩
      rw [hwd] at hbd
      have HWD := Lib.hid hwd
      have hSm := sameR_any (x.1 : Int) (x.2.1 : Int) (x.1 : Int) (x.2.1 : Int) E1 E2 D1 D2 (onL x.2.2.1).length (onL x.2.2.2).length (onL x.2.2.1).length (onL x.2.2.2).length e1 e2 d1 d2 (natI (onL x.2.2.1)) (natI (onL x.2.2.2)) (natI (onL x.2.2.1)) (natI (onL x.2.2.2)) wd wr.heap.size (tm1.sl.below hbd (Nat.le_refl _)) (tm2.sl.below hbd (Nat.le_refl _)) (tn1.sl.below hbd (Nat.le_refl _)) (tn2.sl.below hbd (Nat.le_refl _)) hbd.size (by simp [natI]) (by simp [natI]) (by simp [natI]) (by simp [natI]) (by omega) (by omega)
      rw [show decide ((x.1 : Int) = (x.1 : Int) ∧ (x.2.1 : Int) = (x.2.1 : Int) ∧ natI (onL x.2.2.1) = natI (onL x.2.2.1) ∧ natI (onL x.2.2.2) = natI (onL x.2.2.2)) = true by simp] at hSm
      have HSame := Lib.hid hSm
      clear hwd hSm tm1 tm2 tn1 tn2 hoi
      go_wp2_with fail
      refine wp_region_held_drew (S := fun w' => w'.cell? ⟨ba, oa + i * 4, none⟩ = some (.int .u64 (x.1 : Int)) ∧ w'.cell? ⟨ba, oa + i * 4 + 1, none⟩ = some (.int .u64 (x.2.1 : Int)) ∧ w'.cell? ⟨ba, oa + i * 4 + 2, none⟩ = some (.slice E1 (onL x.2.2.1).length e1) ∧ w'.cell? ⟨ba, oa + i * 4 + 3, none⟩ = some (.slice E2 (onL x.2.2.2).length e2) ∧ w'.cell? ⟨bb, ob + i * 4, none⟩ = some (.int .u64 (x.1 : Int)) ∧ w'.cell? ⟨bb, ob + i * 4 + 1, none⟩ = some (.int .u64 (x.2.1 : Int)) ∧ w'.cell? ⟨bb, ob + i * 4 + 2, none⟩ = some (.slice D1 (onL x.2.2.1).length d1) ∧ w'.cell? ⟨bb, ob + i * 4 + 3, none⟩ = some (.slice D2 (onL x.2.2.2).length d2)) (by kernel_rfl) ⟨p0, p1, p2, p3, q0, q1, q2, q3⟩ (fun hS => ?_)
      refine wpAnyH_takeD (i := 0) (v := ?_) rfl (by kernel_rfl) (by kernel_rfl) (by kernel_rfl) (fun _ _ _ h => h) (Or.inl ⟨by kernel_rfl, ?_⟩) hS ?_
      rotate_left 1
      · (intro w' hSw; (try dsimp only at hSw); go_simp; try (with_reducible rfl))
      try simp only [Act.put, List.setIfInBounds_toArray, List.set_cons_zero, List.set_cons_succ]
      refine wpAnyH_takeD (i := 1) (v := ?_) rfl (by kernel_rfl) (by kernel_rfl) (by kernel_rfl) (fun _ _ _ h => h) (Or.inl ⟨by kernel_rfl, ?_⟩) hS ?_
      rotate_left 1
      · (intro w' hSw; (try dsimp only at hSw); go_simp; try (with_reducible rfl))
      try simp only [Act.put, List.setIfInBounds_toArray, List.set_cons_zero, List.set_cons_succ]
      refine wpAnyH_takeD (i := 2) (v := ?_) rfl (by kernel_rfl) (by kernel_rfl) (by kernel_rfl) (fun _ _ _ h => h) (Or.inl ⟨by kernel_rfl, ?_⟩) hS ?_
      rotate_left 1
      · (intro w' hSw; (try dsimp only at hSw); go_simp; try (with_reducible rfl))
      try simp only [Act.put, List.setIfInBounds_toArray, List.set_cons_zero, List.set_cons_succ]
      refine wpAnyH_takeD (i := 3) (v := ?_) rfl (by kernel_rfl) (by kernel_rfl) (by kernel_rfl) (fun _ _ _ h => h) (Or.inl ⟨by kernel_rfl, ?_⟩) hS ?_
      rotate_left 1
      · (intro w' hSw; (try dsimp only at hSw); go_simp; try (with_reducible rfl))
      try simp only [Act.put, List.setIfInBounds_toArray, List.set_cons_zero, List.set_cons_succ]
      refine wpAnyH_takeD (i := 4) (v := ?_) rfl (by kernel_rfl) (by kernel_rfl) (by kernel_rfl) (fun _ _ _ h => h) (Or.inl ⟨by kernel_rfl, ?_⟩) hS ?_
      rotate_left 1
      · (intro w' hSw; (try dsimp only at hSw); go_simp; try (with_reducible rfl))
      try simp only [Act.put, List.setIfInBounds_toArray, List.set_cons_zero, List.set_cons_succ]
      refine wpAnyH_takeD (i := 5) (v := ?_) rfl (by kernel_rfl) (by kernel_rfl) (by kernel_rfl) (fun _ _ _ h => h) (Or.inl ⟨by kernel_rfl, ?_⟩) hS ?_
      rotate_left 1
      · (intro w' hSw; (try dsimp only at hSw); go_simp; try (with_reducible rfl))
      try simp only [Act.put, List.setIfInBounds_toArray, List.set_cons_zero, List.set_cons_succ]
      refine wpAnyH_takeD (i := 6) (v := ?_) rfl (by kernel_rfl) (by kernel_rfl) (by kernel_rfl) (fun _ _ _ h => h) (Or.inl ⟨by kernel_rfl, ?_⟩) hS ?_
      rotate_left 1
      · (intro w' hSw; (try dsimp only at hSw); go_simp; try (with_reducible rfl))
      try simp only [Act.put, List.setIfInBounds_toArray, List.set_cons_zero, List.set_cons_succ]
      refine wpAnyH_takeD (i := 7) (v := ?_) rfl (by kernel_rfl) (by kernel_rfl) (by kernel_rfl) (fun _ _ _ h => h) (Or.inl ⟨by kernel_rfl, ?_⟩) hS ?_
      rotate_left 1
      · (intro w' hSw; (try dsimp only at hSw); go_simp; try (with_reducible rfl))
      try simp only [Act.put, List.setIfInBounds_toArray, List.set_cons_zero, List.set_cons_succ]
      refine wpAnyH_oneD (i := 8) rfl (by kernel_rfl) (fun K hK => ?_)
      go_simp
      rw [HWD.out]
      refine Calls.mono HSame.out ?_
      rintro e wx ⟨rfl, hbx'⟩
      have hbx : Below wr.heap.size wr wx := hbd.trans (hbx'.mono hbd.size)
      clear hbx'
      dsimp only
      refine hK.out _ _ ⟨(hbx.cell (p := ⟨ba, oa + i * 4, none⟩) (show ba < wr.heap.size by omega)).trans p0, (hbx.cell (p := ⟨ba, oa + i * 4 + 1, none⟩) (show ba < wr.heap.size by omega)).trans p1, (hbx.cell (p := ⟨ba, oa + i * 4 + 2, none⟩) (show ba < wr.heap.size by omega)).trans p2, (hbx.cell (p := ⟨ba, oa + i * 4 + 3, none⟩) (show ba < wr.heap.size by omega)).trans p3, (hbx.cell (p := ⟨bb, ob + i * 4, none⟩) (show bb < wr.heap.size by omega)).trans q0, (hbx.cell (p := ⟨bb, ob + i * 4 + 1, none⟩) (show bb < wr.heap.size by omega)).trans q1, (hbx.cell (p := ⟨bb, ob + i * 4 + 2, none⟩) (show bb < wr.heap.size by omega)).trans q2, (hbx.cell (p := ⟨bb, ob + i * 4 + 3, none⟩) (show bb < wr.heap.size by omega)).trans q3⟩ (fun hS => ?_)
      clear hK
      try simp only [Act.put, List.setIfInBounds_toArray, List.set_cons_zero, List.set_cons_succ]
      refine wpAnyH_takeD (i := 9) (v := ?_) rfl (by kernel_rfl) (by kernel_rfl) (by kernel_rfl) (fun _ _ _ h => h) (Or.inl ⟨by kernel_rfl, ?_⟩) hS ?_
      rotate_left 1
      · (intro w' hSw; (try dsimp only at hSw); go_simp; try (with_reducible rfl))
      try simp only [Act.put, List.setIfInBounds_toArray, List.set_cons_zero, List.set_cons_succ]
      refine wpAnyH_done (by kernel_rfl) ?_ _
      go_wp2_with fail
      go_roundw
      case rel => exact ⟨i + 1, by omega, by go_num, hbr.trans (hbx.mono hsr)⟩
      case measure => simp [intOf]; omega
    · have hkl : i = T.length := by omega
      subst hkl
      go_wp2_with fail
      refine Calls.mono (lives28_any wr) ?_
      rintro e wl ⟨rfl, hbl⟩
      go_wp2_with fail
      go_ret
      exact ⟨rfl, hb09.trans ((hbr.trans (hbl.mono hsr)).mono hz9)⟩
set_option maxHeartbeats 4000000 in
set_option maxRecDepth 100000 in
theorem CoverOnce_any (A : Option Addr) (c : Nat) (f : List Nd) (Ap : Option Addr) (np cp : Nat) (ps : List Int) (w : World) (hf : Sl w w.heap.size 2 A f.length c (ncells f)) (hp : Sl w w.heap.size 1 Ap np cp (icells ps)) (hnp : np = ps.length) (hl : f.length ≤ 8796093022208) (hpl : np ≤ 17592186044416) :
    Calls Try.prog 13 #[.slice A f.length c, .slice Ap np cp] w (Tru w true) := by
  have HAS := Lib.hid (asked28_any A c f Ap np cp ps w w.heap.size hf hp hnp (Nat.le_refl _) hl hpl)
  cases has : askedB f ps
  case' false =>
    rw [has] at HAS
    clear hf hp has hnp
    go_enter Try.func13, Try.ntmps13
    go_wp2_with fail
    refine Calls.mono HAS.out ?_
    rintro e w1 ⟨rfl, hb1⟩
    go_wp2_with fail
    refine Calls.mono (lives28_any w1) ?_
    rintro e w2 ⟨rfl, hb2⟩
    go_wp2_with fail
    go_ret
    exact ⟨rfl, hb1.trans (hb2.mono hb1.size)⟩
  rw [has] at HAS
  have hgd : goodB f ps = true ∧ farB f np = false := by
    unfold askedB at has
    simp only [Bool.and_eq_true, Bool.not_eq_true'] at has
    rw [hnp]; exact ⟨has.2, has.1⟩
  obtain ⟨h9, hf2, hp6⟩ := far_no28 hgd.2
  obtain ⟨hgN, hg50, hgp, hgn⟩ := good_parts hgd.1
  have hgd2 : goodB f (ps ++ ps) = true := by
    have h := hgd.1
    unfold goodB at h ⊢
    simp only [Bool.and_eq_true] at h ⊢
    exact ⟨h.1, by rw [List.all_append, h.2]; rfl⟩
  have hT2 : askedL f (ps ++ ps) = askedL f ps := by
    unfold askedL
    rw [if_pos hgd.1, if_pos hgd2, List.map_append]
    exact coversL_twice (kidsOk_of hgN) hgp
  have HOF := Lib.hid (fun (w' : World) (hb : Below w.heap.size w w') => of_any A c f Ap np cp ps w' ((hf.below hb (Nat.le_refl _)).up hb.size) ((hp.below hb (Nat.le_refl _)).up hb.size) hnp (by omega) (by omega) (few_of h9))
  have HOF2 := Lib.hid (fun (w' : World) (hb : Below w.heap.size w w') (A2 : Option Addr) (m cp2 : Nat) (hm : m = np + np) (h2 : Sl w' w'.heap.size 1 A2 m cp2 (icells (ps ++ ps))) => hT2 ▸ of_any A c f A2 m cp2 (ps ++ ps) w' ((hf.below hb (Nat.le_refl _)).up hb.size) h2 (by rw [List.length_append, hm, hnp]) (by omega) (by omega) (few_of h9))
  have HP := Lib.hid hp
  have HCN := Lib.hid (askedL_covN f ps)
  have hTl := askedL_len (ps := ps) h9
  have hcp := hp.cap
  have hcm := hp.max
  generalize askedL f ps = T at *
  clear hf hp has hnp h9 hgd hgd2 hT2 hgN hgp hgn
  go_enter Try.func13, Try.ntmps13
  go_wp2_with fail
  refine Calls.mono HAS.out ?_
  rintro e w1 ⟨rfl, hb1⟩
  have hz1 := hb1.size
  have HO1 := Lib.hid (HOF.out w1 hb1)
  go_wp2_with fail
  refine Calls.mono HO1.out ?_
  rintro e w2 ⟨va, xa, rfl, howa, hca, hb2⟩
  obtain ⟨AA, cA, rfl, hsa⟩ := own_sl howa
  have hb02 := hb1.trans (hb2.mono hz1)
  have hz02 := hb02.size
  have hcapa := hsa.cap
  have HSA0 := Lib.hid hsa
  have HCA0 := Lib.hid hca
  clear howa HO1 HOF hsa hca
  have hlit := World.ownsRow_lit (base := w2.heap.size) (e := 3) (size := 1) w2 #[] 0 (Nat.le_refl _) (by unfold maxLen; omega) rfl
  have hbA : Below w.heap.size w (w2.alloc (.cells #[] 3)) := hb02.alloc hz02 _
  have hbA2 : Below w2.heap.size w2 (w2.alloc (.cells #[] 3)) := (Below.refl _ _).alloc (Nat.le_refl _) _
  have hPA := HP.out.below hbA (Nat.le_refl _)
  go_wp2_with (at_builtin; first
    | (refine wpList_extend rfl (.tmp 17) (.tmp 18) 28 rfl w2.heap.size 3 1 8 sliceInt _ 0 [] hlit rfl w.heap.size Ap np cp (icells ps) rfl hPA (icells_one' _) (by omega) (by omega) (by simp) ?_
       intro v3 w3 hown3 ht3 hat3 hne3
       have hb23 : Below w2.heap.size w2 w3 := hbA2.trans (ht3.below (by simp) (fun g hg h => by simp [Value.ownBlock] at h; omega))
       have hz23 := hb23.size
       have hP3 := HP.out.below (hb02.trans (hb23.mono hz02)) (Nat.le_refl _)
       clear ht3 hat3 hne3)
    | (refine wpList_extend rfl (.tmp 19) (.tmp 20) 28 rfl w2.heap.size 3 1 8 sliceInt _ (0 + np) _ hown3 rfl w.heap.size Ap np cp (icells ps) rfl hP3 (icells_one' _) (by omega) (by omega) (by omega) ?_
       intro v4 w4 hown4 ht4 hat4 hne4
       have hb24 : Below w2.heap.size w2 w4 := hb23.trans (ht4.below hz23 (fun g hg h => by have := (hown3.lt g h).1; omega))
       obtain ⟨A4, c4, rfl, hs4⟩ := own_sl hown4
       clear ht4 hat4 hne4))
  have hb04 := hb02.trans (hb24.mono hz02)
  have HO4 := Lib.hid (HOF2.out w4 hb04 A4 (np + np) c4 rfl (by rw [Nat.zero_add] at hs4; rw [show icells (ps ++ ps) = [] ++ icells ps ++ icells ps by simp [icells]]; exact hs4))
  clear hlit hbA hbA2 hPA hown3 hown4 hs4 hb23 hP3
  refine Calls.mono HO4.out ?_
  rintro e w9 ⟨vb, xb, rfl, howb, hcb, hb9⟩
  obtain ⟨AB, cB, rfl, hsb⟩ := own_sl howb
  have hb09 := hb04.trans (hb9.mono hb04.size)
  have hz9 := hb09.size
  have hcapb := hsb.cap
  have hb29 := hb24.trans (hb9.mono hb24.size)
  have HSA := Lib.hid ((HSA0.out.below hb29 (Nat.le_refl _)).up hb29.size)
  have HCA := Lib.hid (HCA0.out.keep (Tch.of_below hb29) (spares_new _ _))
  have HSB := Lib.hid hsb
  have HCB := Lib.hid hcb
  clear hsb hcb howb HO4 hb9 hb1 hb02 hb24 hb04 hb29
  go_wp2_with fail
  go_loopw [30] (fun i wr => ∃ k : Nat, k ≤ T.length ∧ i = .int .i64 k ∧ Below w9.heap.size w9 wr) (fun i _ => T.length - (intOf i).toNat)
  case atStart => exact ⟨0, by omega, rfl, Below.refl _ _⟩
  case round =>
    obtain ⟨i, hi, rfl, hbr⟩ := hrel
    have hsr := hbr.size
    by_cases hlt : i < T.length
    · obtain ⟨ba, oa, E1, e1, E2, e2, rfl, hbal, p0, p1, p2, p3, tm1, tm2⟩ := rd_cov (HSA.out.below hbr (Nat.le_refl _)).rd (HCA.out.keep (Tch.of_below hbr) (spares_new _ _)) (List.getElem?_eq_getElem hlt)
      obtain ⟨bb, ob, D1, d1, D2, d2, rfl, hbbl, q0, q1, q2, q3, tn1, tn2⟩ := rd_cov (HSB.out.below hbr (Nat.le_refl _)).rd (HCB.out.keep (Tch.of_below hbr) (spares_new _ _)) (List.getElem?_eq_getElem hlt)
      have hoi := HCN.out T[i] (List.getElem_mem hlt)
      have hle1 : (onL T[i].2.2.1).length ≤ 1000 := Nat.le_trans (onL_len _) (by rw [hoi.1]; omega)
      have hle2 : (onL T[i].2.2.2).length ≤ 1000 := Nat.le_trans (onL_len _) (by rw [hoi.2]; omega)
      generalize T[i] = x at *
      have wi : IntKind.i64.wrap ((i : Int) + 1) = i + 1 := by rw [IntKind.wrap_i64]; omega
      have hbd : Below wr.heap.size wr wr.drew := Below.drew (Below.refl _ _)
      obtain ⟨wd, hwd⟩ : ∃ wd, wr.drew = wd := ⟨_, rfl⟩
      rw [hwd] at hbd
      have HWD := Lib.hid hwd
      have hSm := sameR_any (x.1 : Int) (x.2.1 : Int) (x.1 : Int) (x.2.1 : Int) E1 E2 D1 D2 (onL x.2.2.1).length (onL x.2.2.2).length (onL x.2.2.1).length (onL x.2.2.2).length e1 e2 d1 d2 (natI (onL x.2.2.1)) (natI (onL x.2.2.2)) (natI (onL x.2.2.1)) (natI (onL x.2.2.2)) wd wr.heap.size (tm1.sl.below hbd (Nat.le_refl _)) (tm2.sl.below hbd (Nat.le_refl _)) (tn1.sl.below hbd (Nat.le_refl _)) (tn2.sl.below hbd (Nat.le_refl _)) hbd.size (by simp [natI]) (by simp [natI]) (by simp [natI]) (by simp [natI]) (by omega) (by omega)
      rw [show decide ((x.1 : Int) = (x.1 : Int) ∧ (x.2.1 : Int) = (x.2.1 : Int) ∧ natI (onL x.2.2.1) = natI (onL x.2.2.1) ∧ natI (onL x.2.2.2) = natI (onL x.2.2.2)) = true by simp] at hSm
      have HSame := Lib.hid hSm
      clear hwd hSm tm1 tm2 tn1 tn2 hoi
      go_wp2_with fail
      refine wp_region_held_drew (S := fun w' => w'.cell? ⟨ba, oa + i * 4, none⟩ = some (.int .u64 (x.1 : Int)) ∧ w'.cell? ⟨ba, oa + i * 4 + 1, none⟩ = some (.int .u64 (x.2.1 : Int)) ∧ w'.cell? ⟨ba, oa + i * 4 + 2, none⟩ = some (.slice E1 (onL x.2.2.1).length e1) ∧ w'.cell? ⟨ba, oa + i * 4 + 3, none⟩ = some (.slice E2 (onL x.2.2.2).length e2) ∧ w'.cell? ⟨bb, ob + i * 4, none⟩ = some (.int .u64 (x.1 : Int)) ∧ w'.cell? ⟨bb, ob + i * 4 + 1, none⟩ = some (.int .u64 (x.2.1 : Int)) ∧ w'.cell? ⟨bb, ob + i * 4 + 2, none⟩ = some (.slice D1 (onL x.2.2.1).length d1) ∧ w'.cell? ⟨bb, ob + i * 4 + 3, none⟩ = some (.slice D2 (onL x.2.2.2).length d2)) (by kernel_rfl) ⟨p0, p1, p2, p3, q0, q1, q2, q3⟩ (fun hS => ?_)
      refine wpAnyH_takeD (i := 0) (v := ?_) rfl (by kernel_rfl) (by kernel_rfl) (by kernel_rfl) (fun _ _ _ h => h) (Or.inl ⟨by kernel_rfl, ?_⟩) hS ?_
      rotate_left 1
      · (intro w' hSw; (try dsimp only at hSw); go_simp; try (with_reducible rfl))
      try simp only [Act.put, List.setIfInBounds_toArray, List.set_cons_zero, List.set_cons_succ]
      refine wpAnyH_takeD (i := 1) (v := ?_) rfl (by kernel_rfl) (by kernel_rfl) (by kernel_rfl) (fun _ _ _ h => h) (Or.inl ⟨by kernel_rfl, ?_⟩) hS ?_
      rotate_left 1
      · (intro w' hSw; (try dsimp only at hSw); go_simp; try (with_reducible rfl))
      try simp only [Act.put, List.setIfInBounds_toArray, List.set_cons_zero, List.set_cons_succ]
      refine wpAnyH_takeD (i := 2) (v := ?_) rfl (by kernel_rfl) (by kernel_rfl) (by kernel_rfl) (fun _ _ _ h => h) (Or.inl ⟨by kernel_rfl, ?_⟩) hS ?_
      rotate_left 1
      · (intro w' hSw; (try dsimp only at hSw); go_simp; try (with_reducible rfl))
      try simp only [Act.put, List.setIfInBounds_toArray, List.set_cons_zero, List.set_cons_succ]
      refine wpAnyH_takeD (i := 3) (v := ?_) rfl (by kernel_rfl) (by kernel_rfl) (by kernel_rfl) (fun _ _ _ h => h) (Or.inl ⟨by kernel_rfl, ?_⟩) hS ?_
      rotate_left 1
      · (intro w' hSw; (try dsimp only at hSw); go_simp; try (with_reducible rfl))
      try simp only [Act.put, List.setIfInBounds_toArray, List.set_cons_zero, List.set_cons_succ]
      refine wpAnyH_takeD (i := 4) (v := ?_) rfl (by kernel_rfl) (by kernel_rfl) (by kernel_rfl) (fun _ _ _ h => h) (Or.inl ⟨by kernel_rfl, ?_⟩) hS ?_
      rotate_left 1
      · (intro w' hSw; (try dsimp only at hSw); go_simp; try (with_reducible rfl))
      try simp only [Act.put, List.setIfInBounds_toArray, List.set_cons_zero, List.set_cons_succ]
      refine wpAnyH_takeD (i := 5) (v := ?_) rfl (by kernel_rfl) (by kernel_rfl) (by kernel_rfl) (fun _ _ _ h => h) (Or.inl ⟨by kernel_rfl, ?_⟩) hS ?_
      rotate_left 1
      · (intro w' hSw; (try dsimp only at hSw); go_simp; try (with_reducible rfl))
      try simp only [Act.put, List.setIfInBounds_toArray, List.set_cons_zero, List.set_cons_succ]
      refine wpAnyH_takeD (i := 6) (v := ?_) rfl (by kernel_rfl) (by kernel_rfl) (by kernel_rfl) (fun _ _ _ h => h) (Or.inl ⟨by kernel_rfl, ?_⟩) hS ?_
      rotate_left 1
      · (intro w' hSw; (try dsimp only at hSw); go_simp; try (with_reducible rfl))
      try simp only [Act.put, List.setIfInBounds_toArray, List.set_cons_zero, List.set_cons_succ]
      refine wpAnyH_takeD (i := 7) (v := ?_) rfl (by kernel_rfl) (by kernel_rfl) (by kernel_rfl) (fun _ _ _ h => h) (Or.inl ⟨by kernel_rfl, ?_⟩) hS ?_
      rotate_left 1
      · (intro w' hSw; (try dsimp only at hSw); go_simp; try (with_reducible rfl))
      try simp only [Act.put, List.setIfInBounds_toArray, List.set_cons_zero, List.set_cons_succ]
      refine wpAnyH_oneD (i := 8) rfl (by kernel_rfl) (fun K hK => ?_)
      go_simp
      rw [HWD.out]
      refine Calls.mono HSame.out ?_
      rintro e wx ⟨rfl, hbx'⟩
      have hbx : Below wr.heap.size wr wx := hbd.trans (hbx'.mono hbd.size)
      clear hbx'
      dsimp only
      refine hK.out _ _ ⟨(hbx.cell (p := ⟨ba, oa + i * 4, none⟩) (show ba < wr.heap.size by omega)).trans p0, (hbx.cell (p := ⟨ba, oa + i * 4 + 1, none⟩) (show ba < wr.heap.size by omega)).trans p1, (hbx.cell (p := ⟨ba, oa + i * 4 + 2, none⟩) (show ba < wr.heap.size by omega)).trans p2, (hbx.cell (p := ⟨ba, oa + i * 4 + 3, none⟩) (show ba < wr.heap.size by omega)).trans p3, (hbx.cell (p := ⟨bb, ob + i * 4, none⟩) (show bb < wr.heap.size by omega)).trans q0, (hbx.cell (p := ⟨bb, ob + i * 4 + 1, none⟩) (show bb < wr.heap.size by omega)).trans q1, (hbx.cell (p := ⟨bb, ob + i * 4 + 2, none⟩) (show bb < wr.heap.size by omega)).trans q2, (hbx.cell (p := ⟨bb, ob + i * 4 + 3, none⟩) (show bb < wr.heap.size by omega)).trans q3⟩ (fun hS => ?_)
      clear hK
      try simp only [Act.put, List.setIfInBounds_toArray, List.set_cons_zero, List.set_cons_succ]
      refine wpAnyH_takeD (i := 9) (v := ?_) rfl (by kernel_rfl) (by kernel_rfl) (by kernel_rfl) (fun _ _ _ h => h) (Or.inl ⟨by kernel_rfl, ?_⟩) hS ?_
      rotate_left 1
      · (intro w' hSw; (try dsimp only at hSw); go_simp; try (with_reducible rfl))
      try simp only [Act.put, List.setIfInBounds_toArray, List.set_cons_zero, List.set_cons_succ]
      refine wpAnyH_done (by kernel_rfl) ?_ _
      go_wp2_with fail
      go_roundw
      case rel => exact ⟨i + 1, by omega, by go_num, hbr.trans (hbx.mono hsr)⟩
      case measure => simp [intOf]; omega
    · have hkl : i = T.length := by omega
      subst hkl
      go_wp2_with fail
      refine Calls.mono (lives28_any wr) ?_
      rintro e wl ⟨rfl, hbl⟩
      go_wp2_with fail
      go_ret
      exact ⟨rfl, hb09.trans ((hbr.trans (hbl.mono hsr)).mono hz9)⟩
end Go.Proofs.Ytedohmcnjlhdnaa
