/- CoverWords. -/
import Derived.Test.YtedohmcnjlhdnaaCwL4
import Derived.Test.YtedohmcnjlhdnaaCwL3
import Derived.Test.YtedohmcnjlhdnaaExtW
namespace Go.Proofs.Ytedohmcnjlhdnaa
open Go.RowKit

theorem any_snoc {α : Type} (l : List α) (p : α → Bool) (k : Nat) (hk : k < l.length) : (l.take (k + 1)).any p = ((l.take k).any p || p l[k]) := by
  rw [take_snoc l k hk, List.any_append]; simp
set_option maxHeartbeats 16000000 in
set_option maxRecDepth 100000 in
theorem CoverWords_any (A : Option Addr) (c : Nat) (f : List Nd) (Ap : Option Addr) (np cp : Nat) (ps : List Int) (A1 : Option Addr) (n1 c1 : Nat) (st : List Int) (A2 : Option Addr) (n2 c2 : Nat) (lo : List Int) (w : World) (hf : Sl w w.heap.size 2 A f.length c (ncells f)) (hp : Sl w w.heap.size 1 Ap np cp (icells ps))
    (h1 : Sl w w.heap.size 1 A1 n1 c1 (ucells st)) (h2 : Sl w w.heap.size 1 A2 n2 c2 (ucells lo)) (hnp : np = ps.length) (hn1 : n1 = st.length) (hn2 : n2 = lo.length) (hl : f.length ≤ 8796093022208) (hpl : np ≤ 17592186044416) (hl1 : n1 ≤ 17592186044416) (hl2 : n2 ≤ 17592186044416)
    (hst : ∀ x ∈ st, 0 ≤ x ∧ x ≤ 18446744073709551615) (hlo : ∀ x ∈ lo, 0 ≤ x ∧ x ≤ 18446744073709551615) :
    Calls Try.prog 11 #[.slice A f.length c, .slice Ap np cp, .agg #[.slice A1 n1 c1, .slice A2 n2 c2]] w (Tru w true) := by
  have hb0 : Below w.heap.size w (w.alloc (.cells #[.slice A1 n1 c1, .slice A2 n2 c2] 27)) := (Below.refl _ _).alloc (Nat.le_refl _) _
  have hx0 := heap_alloc_new w (.cells #[.slice A1 n1 c1, .slice A2 n2 c2] 27)
  have hxz : (w.alloc (.cells #[.slice A1 n1 c1, .slice A2 n2 c2] 27)).heap.size = w.heap.size + 1 := by simp
  obtain ⟨W0, hW0⟩ : ∃ W0, w.alloc (.cells #[.slice A1 n1 c1, .slice A2 n2 c2] 27) = W0 := ⟨_, rfl⟩
  rw [hW0] at hb0 hx0 hxz
  have hy0 : W0.cell? ⟨w.heap.size, 0, none⟩ = some (.slice A1 n1 c1) := by rw [cell_of_row _ _ _ _ _ _ hx0]; rfl
  have hy1 : W0.cell? ⟨w.heap.size, 1, none⟩ = some (.slice A2 n2 c2) := by rw [cell_of_row _ _ _ _ _ _ hx0]; rfl
  have HX0 := Lib.hid hx0
  have HW0 := Lib.hid hW0
  have HB0 := Lib.hid hb0
  have HAS := Lib.hid (asked28_any A c f Ap np cp ps W0 w.heap.size (hf.below hb0 (Nat.le_refl _)) (hp.below hb0 (Nat.le_refl _)) hnp hb0.size hl hpl)
  obtain ⟨N, hN⟩ : ∃ N, N = n1 + n2 := ⟨_, rfl⟩
  have hNw : IntKind.i64.wrap ((n1 : Int) + (n2 : Int)) = (N : Int) := by rw [IntKind.wrap_i64]; omega
  have hc1 := h1.cap
  have hc2 := h2.cap
  have hcp := hp.cap
  have hcf := hf.cap
  cases has : askedB f ps
  case' false =>
    rw [has] at HAS
    clear hf hp h1 h2 has hnp hn1 hn2 hst hlo hW0 hx0
    go_enter Try.func11, Try.ntmps11
    go_wp2_with fail
    rw [HW0.out]
    go_wp2_with fail
    refine Calls.mono HAS.out ?_
    rintro e w1 ⟨rfl, hb1⟩
    go_wp2_with fail
    refine Calls.mono (lives28_any w1) ?_
    rintro e w2 ⟨rfl, hb2⟩
    go_wp2_with fail
    go_ret
    exact ⟨rfl, (hb0.trans (hb1.mono (by omega))).trans (hb2.mono (Nat.le_trans hb0.size hb1.size))⟩
  rw [has] at HAS
  have hgd : goodB f ps = true ∧ farB f np = false := by
    unfold askedB at has
    simp only [Bool.and_eq_true, Bool.not_eq_true'] at has
    rw [hnp]; exact ⟨has.2, has.1⟩
  obtain ⟨h9, hf2, hp6⟩ := far_no28 hgd.2
  obtain ⟨hgN, hg50, hgp, hgn⟩ := good_parts hgd.1
  have HGD := Lib.hid hgd.1
  have HGN := Lib.hid hgN
  have HOF := Lib.hid (fun (w' : World) (hb : Below w.heap.size w w') => of_any A c f Ap np cp ps w' ((hf.below hb (Nat.le_refl _)).up hb.size) ((hp.below hb (Nat.le_refl _)).up hb.size) hnp (by omega) (by omega) (few_of h9))
  have HCF := Lib.hid (askedL_covN f ps)
  have HSM := Lib.hid (fun c hc => ((askedL_facts hgd.1).2 c hc).2.2)
  have HTR := Lib.hid (fun (w' : World) (hb : Below w.heap.size w w') (hN3 : n1 + n2 ≤ 1000) => Truths_any A A1 A2 f.length c n1 c1 n2 c2 f st lo w' w.heap.size w.heap.size w.heap.size rfl hn1 hn2 (hf.below hb (Nat.le_refl _)) (h1.below hb (Nat.le_refl _)) (h2.below hb (Nat.le_refl _)) hb.size hb.size hb.size (by omega) hN3)
  have HP : Hid (Sl w w.heap.size 1 Ap np cp (icells (natI (ps.map Int.toNat)))) := Lib.hid (by rw [hgn]; exact hp)
  have HPL : Hid (np = (ps.map Int.toNat).length ∧ ∀ x ∈ ps.map Int.toNat, x < f.length) := Lib.hid ⟨by rw [List.length_map]; exact hnp, hgp⟩
  have HN1 := Lib.hid hn1
  have HN2 := Lib.hid hn2
  have HS1 := Lib.hid h1
  have HS2 := Lib.hid h2
  have HSET : Hid (∀ k, k < N → ∃ S : Nat, (st ++ lo).getD k 0 = (S : Int) ∧ S < 2 ^ 64) := Lib.hid (fun k hk => by
    have hk2 : k < (st ++ lo).length := by rw [List.length_append, ← hn1, ← hn2]; omega
    have hm : (st ++ lo)[k] ∈ st ++ lo := List.getElem_mem hk2
    have hb : 0 ≤ (st ++ lo)[k] ∧ (st ++ lo)[k] ≤ 18446744073709551615 := by
      rcases List.mem_append.1 hm with h | h
      · exact hst _ h
      · exact hlo _ h
    refine ⟨((st ++ lo)[k]).toNat, ?_, by omega⟩
    rw [List.getD_eq_getElem?_getD, List.getElem?_eq_getElem hk2, Option.getD_some]; omega)
  have HNN := Lib.hid hN
  have hTl := askedL_len (ps := ps) h9
  clear hf hp h1 h2 has hnp hn1 hn2 hst hlo hW0 hx0 hgd hgN hgp hgn h9
  by_cases h0 : n2 = 0
  · have d0 : ((n2 : Int) == 0) = true := by simp; omega
    subst h0
    go_enter Try.func11, Try.ntmps11
    go_wp2_with fail
    rw [HW0.out]
    go_wp2_with fail
    refine Calls.mono HAS.out ?_
    rintro e w1 ⟨rfl, hb1⟩
    have g1 := (hb1.cell (p := ⟨w.heap.size, 1, none⟩) (show w.heap.size < W0.heap.size by omega)).trans hy1
    go_wp2_with fail
    refine Calls.mono (lives28_any w1) ?_
    rintro e w2 ⟨rfl, hb2⟩
    go_wp2_with fail
    go_ret
    exact ⟨rfl, (hb0.trans (hb1.mono (by omega))).trans (hb2.mono (Nat.le_trans hb0.size hb1.size))⟩
  have d0 : ((n2 : Int) == 0) = false := by simp; omega
  by_cases h30 : 30 < N
  · have d30 : decide ((30 : Int) < (N : Int)) = true := by simp; omega
    clear h30 hN
    go_enter Try.func11, Try.ntmps11
    go_wp2_with fail
    rw [HW0.out]
    go_wp2_with fail
    refine Calls.mono HAS.out ?_
    rintro e w1 ⟨rfl, hb1⟩
    have g1 := (hb1.cell (p := ⟨w.heap.size, 1, none⟩) (show w.heap.size < W0.heap.size by omega)).trans hy1
    go_wp2_with fail
    refine Calls.mono (lives28_any w1) ?_
    rintro e w2 ⟨rfl, hb2⟩
    go_wp2_with fail
    go_ret
    exact ⟨rfl, (hb0.trans (hb1.mono (by omega))).trans (hb2.mono (Nat.le_trans hb0.size hb1.size))⟩
  have d30 : decide ((30 : Int) < (N : Int)) = false := by simp; omega
  have hN3 : n1 + n2 ≤ 1000 := by omega
  have HTR2 := Lib.hid (fun (w' : World) (hb : Below w.heap.size w w') => HTR.out w' hb hN3)
  have HLP : Hid (n1 < N) := Lib.hid (by omega)
  have hNl : N ≤ 30 := by omega
  have HN0 : Hid (lo ≠ []) := Lib.hid (fun e => by have := HN2.out; rw [e] at this; simp at this; omega)
  clear h30 hN HTR
  go_enter Try.func11, Try.ntmps11
  go_wp2_with fail
  rw [HW0.out]
  go_wp2_with fail
  refine Calls.mono HAS.out ?_
  rintro e w1 ⟨rfl, hb1⟩
  have g0 := (hb1.cell (p := ⟨w.heap.size, 0, none⟩) (show w.heap.size < W0.heap.size by omega)).trans hy0
  have g1 := (hb1.cell (p := ⟨w.heap.size, 1, none⟩) (show w.heap.size < W0.heap.size by omega)).trans hy1
  have hb01 := hb0.trans (hb1.mono (by omega))
  have hz1 := hb01.size
  have hzb1 : w.heap.size < w1.heap.size := by have := hb1.size; omega
  have HT1 := Lib.hid (HTR2.out w1 hb01)
  clear hy0 hy1 hb0 hxz HAS HW0 HB0 HX0 HTR2 hb1
  go_wp2_with fail
  refine Calls.mono HT1.out ?_
  rintro e w2 ⟨vt, rfl, hG⟩
  have hR : truthsL f st lo = rowsL (bitsOf (st ++ lo)) (st.length + lo.length) st.length f (spans f) f.length := by
    unfold truthsL; rw [if_pos ⟨isN_good HGN.out, HN0.out⟩]
  rw [hR, ← HN1.out, ← HN2.out, ← HNN.out] at hG
  have hb12 := hG.choose_spec.2.2
  have hRn := rows_len (bits := bitsOf (st ++ lo)) (n := N) (lp := n1) HGN.out
  have hRl : (rowsL (bitsOf (st ++ lo)) N n1 f (spans f) f.length).length = f.length := rowsL_len _
  have hb02 := hb01.trans (hb12.mono hz1)
  have hz2 := hb02.size
  replace g0 := (hb12.cell (p := ⟨w.heap.size, 0, none⟩) hzb1).trans g0
  replace g1 := (hb12.cell (p := ⟨w.heap.size, 1, none⟩) hzb1).trans g1
  have hzb2 : w.heap.size < w2.heap.size := Nat.lt_of_lt_of_le hzb1 hb12.size
  have HG := Lib.hid hG
  have HRn := Lib.hid hRn
  have HRl := Lib.hid hRl
  clear hR hG hRn hRl HT1 hb12 hb01 hz1 hzb1
  have HSO : Hid (∀ k, k < N → ∃ S : Nat, (st ++ lo).getD k 0 = (S : Int) ∧ S < 2 ^ 64 ∧
      ((askedL f ps).any (fun c => fitB S c.1 c.2.1 (fun x => ((rowsL (bitsOf (st ++ lo)) N n1 f (spans f) f.length).getD x []).getD (nx n1 N k) false) (onL c.2.2.1)) = (ps.map Int.toNat).all (fun x => ((rowsL (bitsOf (st ++ lo)) N n1 f (spans f) f.length).getD x []).getD k false)) ∧
      ∀ c ∈ askedL f ps, fitB S c.1 c.2.1 (fun x => ((rowsL (bitsOf (st ++ lo)) N n1 f (spans f) f.length).getD x []).getD (nx n1 N k) false) (onL c.2.2.1) = true → (onL c.2.2.2).all (fun x => ((rowsL (bitsOf (st ++ lo)) N n1 f (spans f) f.length).getD x []).getD k false) = true) := Lib.hid (fun k hk => by
    obtain ⟨S, e, hS⟩ := HSET.out k hk
    exact ⟨S, e, hS, words_some HGD.out e hS HLP.out hk, fun c hc hf => words_now HGD.out e hS HLP.out hk hc hf⟩)
  generalize rowsL (bitsOf (st ++ lo)) N n1 f (spans f) f.length = R at *
  have hSl : (st ++ lo).length = N := by rw [List.length_append, ← HN1.out, ← HN2.out, ← HNN.out]
  go_wp2_with fail
  refine wp_region_held_drew (S := fun w' => w'.cell? ⟨w.heap.size, 0, none⟩ = some (.slice A1 n1 c1) ∧ w'.cell? ⟨w.heap.size, 1, none⟩ = some (.slice A2 n2 c2)) (by kernel_rfl) ⟨g0, g1⟩ (fun hS => ?_)
  refine wpAnyH_takeD (i := 1) (v := ?_) rfl (by kernel_rfl) (by kernel_rfl) (by kernel_rfl) (fun _ _ _ h => h) (Or.inl ⟨by kernel_rfl, ?_⟩) hS ?_
  rotate_left 1
  · (intro w' hSw; (try dsimp only at hSw); go_simp; try (with_reducible rfl))
  try simp only [Act.put, List.setIfInBounds_toArray, List.set_cons_zero, List.set_cons_succ]
  refine wpAnyH_takeD (i := 2) (v := ?_) rfl (by kernel_rfl) (by kernel_rfl) (by kernel_rfl) (fun _ _ _ h => h) (Or.inl ⟨by kernel_rfl, ?_⟩) hS ?_
  rotate_left 1
  · (intro w' hSw; (try dsimp only at hSw); go_simp; try (with_reducible rfl))
  try simp only [Act.put, List.setIfInBounds_toArray, List.set_cons_zero, List.set_cons_succ]
  refine wpAnyH_takeD (i := 4) (v := ?_) rfl (by kernel_rfl) (by kernel_rfl) (by kernel_rfl) (fun _ _ _ h => h) (Or.inl ⟨by kernel_rfl, ?_⟩) hS ?_
  rotate_left 1
  · (intro w' hSw; (try dsimp only at hSw); go_simp; try (with_reducible rfl))
  try simp only [Act.put, List.setIfInBounds_toArray, List.set_cons_zero, List.set_cons_succ]
  refine wpAnyH_takeD (i := 5) (v := ?_) rfl (by kernel_rfl) (by kernel_rfl) (by kernel_rfl) (fun _ _ _ h => h) (Or.inl ⟨by kernel_rfl, ?_⟩) hS ?_
  rotate_left 1
  · (intro w' hSw; (try dsimp only at hSw); go_simp; try (with_reducible rfl))
  try simp only [Act.put, List.setIfInBounds_toArray, List.set_cons_zero, List.set_cons_succ]
  refine wpAnyH_oneD (i := 0) rfl (by kernel_rfl) (fun K hK => ?_)
  refine step_empty rfl 25 rfl 45 1 8 sliceSets ?_
  intro we ve hve hOe hbe hse
  have hbe0 : Below w2.heap.size w2 we := (Below.drew (Below.refl _ _)).trans hbe
  have hye0 := (hbe0.cell (p := ⟨w.heap.size, 0, none⟩) hzb2).trans g0
  have hye1 := (hbe0.cell (p := ⟨w.heap.size, 1, none⟩) hzb2).trans g1
  have hOe' : we.ownsRow w2.heap.size 45 1 ve 0 [] := hOe
  have hve2 : ve = .slice (some ⟨w2.heap.size, 0, none⟩) 0 0 := hve
  clear hve hOe hbe hse
  subst hve2
  refine hK.out _ _ ⟨hye0, hye1⟩ (fun hS => ?_)
  clear hK
  try simp only [Act.put, List.setIfInBounds_toArray, List.set_cons_zero, List.set_cons_succ]
  refine wpAnyH_oneD (i := 3) rfl (by kernel_rfl) (fun K hK => ?_)
  refine step_extend rfl (.tmp 43) (.tmp 45) 25 rfl w2.heap.size 45 1 8 sliceSets _ 0 [] hOe' (by rfl) w.heap.size A1 n1 c1 (ucells st) (by rfl) (HS1.out.below (hb02.trans (hbe0.mono hz2)) (Nat.le_refl _)) (ucells_one st) (by omega) (by omega) hbe0.size ?_
  intro v1 wa hOa hta _ _
  have hba : Below w2.heap.size w2 wa := hbe0.trans (hta.below hbe0.size (fun k hk e => by have := (hOe'.lt k e).1; omega))
  have hya0 := (hba.cell (p := ⟨w.heap.size, 0, none⟩) hzb2).trans g0
  have hya1 := (hba.cell (p := ⟨w.heap.size, 1, none⟩) hzb2).trans g1
  refine hK.out _ _ ⟨hya0, hya1⟩ (fun hS => ?_)
  clear hK
  try simp only [Act.put, List.setIfInBounds_toArray, List.set_cons_zero, List.set_cons_succ]
  refine wpAnyH_oneD (i := 6) rfl (by kernel_rfl) (fun K hK => ?_)
  refine step_extend rfl (.tmp 46) (.tmp 48) 25 rfl w2.heap.size 45 1 8 sliceSets v1 (0 + n1) ([] ++ ucells st) hOa (by rfl) w.heap.size A2 n2 c2 (ucells lo) (by rfl) (HS2.out.below (hb02.trans (hba.mono hz2)) (Nat.le_refl _)) (ucells_one lo) (by omega) (by omega) hba.size ?_
  intro v2 w3 hO3 ht3 _ _
  have hb3 : Below w2.heap.size w2 w3 := hba.trans (ht3.below hba.size (fun k hk e => by have := (hOa.lt k e).1; omega))
  have hy30 := (hb3.cell (p := ⟨w.heap.size, 0, none⟩) hzb2).trans g0
  have hy31 := (hb3.cell (p := ⟨w.heap.size, 1, none⟩) hzb2).trans g1
  refine hK.out _ _ ⟨hy30, hy31⟩ (fun hS => ?_)
  clear hK
  try simp only [Act.put, List.setIfInBounds_toArray, List.set_cons_zero, List.set_cons_succ]
  refine wpAnyH_takeD (i := 7) (v := ?_) rfl (by kernel_rfl) (by kernel_rfl) (by kernel_rfl) (fun _ _ _ h => h) (Or.inl ⟨by kernel_rfl, ?_⟩) hS ?_
  rotate_left 1
  · (intro w' hSw; (try dsimp only at hSw); go_simp; try (with_reducible rfl))
  try simp only [Act.put, List.setIfInBounds_toArray, List.set_cons_zero, List.set_cons_succ]
  refine wpAnyH_done (by kernel_rfl) ?_ _
  go_wp2_with fail
  have hb03 := hb02.trans (hb3.mono hz2)
  have hz3 := hb03.size
  rw [List.nil_append, ← ucells_append] at hO3
  have hNl2 : 0 + n1 + n2 = N := by rw [HNN.out]; omega
  rw [hNl2] at hO3
  obtain ⟨As, cs, rfl, hss⟩ := own_sl hO3
  have HSS := Lib.hid hss
  have hcs := hss.cap
  have HG3 := Lib.hid (HG.out.below hb3)
  have HO1 := Lib.hid (HOF.out w3 hb03)
  clear hO3 hOa hOe' hba hbe0 hta ht3 hss g0 g1 hy31 hya0 hya1 hye0 hye1 HOF
  generalize askedL f ps = T at *
  generalize ps.map Int.toNat = PS at *
  refine Calls.mono HO1.out ?_
  rintro e w6 ⟨vl, xl, rfl, howl, hcl, hb6⟩
  obtain ⟨AA, cA, rfl, hsa⟩ := own_sl howl
  have hb06 := hb03.trans (hb6.mono hz3)
  have hz6 := hb06.size
  have hcA := hsa.cap
  have HSL := Lib.hid hsa
  have HCL := Lib.hid hcl
  have HG6 := Lib.hid (HG3.out.below hb6)
  have hzb3 := Nat.lt_of_lt_of_le hzb2 hb3.size
  have hzb6 := Nat.lt_of_lt_of_le hzb3 hb6.size
  have hg6 := (hb6.cell (p := ⟨w.heap.size, 0, none⟩) hzb3).trans hy30
  have HSS6 := Lib.hid ((HSS.out.below hb6 (Nat.le_refl _)).up hb6.size)
  clear howl hsa hcl HO1 hb6 hb3 hy30 HSS HG3 HG hb03 hb02 hzb2 hzb3
  go_wp2_with fail
  go_loopw [54] (fun v wr => ∃ k : Nat, k ≤ N ∧ v = .int .i64 k ∧ Below w6.heap.size w6 wr) (fun v _ => N - (intOf v).toNat)
  case atStart => exact ⟨0, by omega, rfl, Below.refl _ _⟩
  case round =>
    obtain ⟨k, hk, rfl, hbr⟩ := hrel
    have hsr := hbr.size
    by_cases hkN : k < N
    · obtain ⟨S, hS0, hS64, hany, hnow⟩ := HSO.out k hkN
      obtain ⟨bs, os, rfl, hbs6, hsc0⟩ := HSS6.out.rd.at_ (ucells_at (l := st ++ lo) (i := k) (by rw [hSl]; exact hkN))
      rw [hS0] at hsc0
      have HSC := Lib.hid hsc0
      obtain ⟨q, hq⟩ : ∃ q, k + 1 = q := ⟨_, rfl⟩
      have hwk : IntKind.i64.wrap ((k : Int) + 1) = (q : Int) := by rw [IntKind.wrap_i64]; omega
      clear hsc0 hS0
      by_cases hqN : q = N
      · have hnx : nx n1 N k = n1 := by unfold nx; rw [if_neg (by omega)]
        rw [hnx] at hany hnow
        have HANY := Lib.hid hany
        have HNOW := Lib.hid hnow
        have HNX := HLP
        have dq : (q == N) = true := by simpa using hqN
        have dqi : ((q : Int) == (N : Int)) = true := by simp; omega
        have g0 := (hbr.cell (p := ⟨w.heap.size, 0, none⟩) hzb6).trans hg6
        clear hany hnow hnx
        go_wp2_with fail
        clear g0 dq dqi
        go_loopw [13, 67] (fun u v wr => ∃ (i : Nat) (b : Bool), i ≤ T.length ∧ v = .int .i64 i ∧ u = .bool b ∧ Hid (b = (T.take i).any (fun c => fitB S c.1 c.2.1 (fun x => (R.getD x []).getD (n1) false) (onL c.2.2.1))) ∧ Below w6.heap.size w6 wr) (fun _ v _ => T.length - (intOf v).toNat)
        case atStart => exact ⟨0, false, by omega, rfl, rfl, rfl, hbr⟩
        case round =>
          obtain ⟨i, b, hi, rfl, rfl, HQ, hbr⟩ := hrel
          have hsr := hbr.size
          by_cases hlt : i < T.length
          · obtain ⟨ba, oa, E1, e1, E2, e2, rfl, hbal, p0, p1, p2, p3, tm1, tm2⟩ := rd_cov (HSL.out.below hbr (Nat.le_refl _)).rd (HCL.out.keep (Tch.of_below hbr) (spares_new _ _)) (List.getElem?_eq_getElem hlt)
            have hsn := any_snoc T (fun c => fitB S c.1 c.2.1 (fun x => (R.getD x []).getD (n1) false) (onL c.2.2.1)) i hlt
            have hmem : T[i] ∈ T := List.getElem_mem hlt
            have hcn := HCF.out T[i] hmem
            have hsm := HSM.out T[i] hmem
            have hnw := HNOW.out T[i] hmem
            generalize T[i] = x at *
            have hle1 : (onL x.2.2.1).length ≤ 1000 := Nat.le_trans (onL_len _) (by rw [hcn.1]; omega)
            have hle2 : (onL x.2.2.2).length ≤ 1000 := Nat.le_trans (onL_len _) (by rw [hcn.2]; omega)
            have hlt1 : ∀ z ∈ onL x.2.2.1, z < f.length := fun z hz => by
              unfold onL at hz
              have := List.mem_range.1 (List.mem_filter.1 hz).1
              rw [hcn.1] at this; exact this
            have hlt2 : ∀ z ∈ onL x.2.2.2, z < f.length := fun z hz => by
              unfold onL at hz
              have := List.mem_range.1 (List.mem_filter.1 hz).1
              rw [hcn.2] at this; exact this
            obtain ⟨LL, hLL⟩ : ∃ LL, onL x.2.2.1 ++ onL x.2.2.2 = LL := ⟨_, rfl⟩
            have hLz : ∀ z ∈ LL, z < f.length := fun z hz => by
              rw [← hLL] at hz
              rcases List.mem_append.1 hz with h | h
              · exact hlt1 z h
              · exact hlt2 z h
            have hLc : LL.length ≤ 2000 := by rw [← hLL, List.length_append]; omega
            have HLL := Lib.hid hLL
            have HLz := Lib.hid hLz
            have HL1 := Lib.hid hlt1
            have HL2 := Lib.hid hlt2
            have HSN := Lib.hid hsn
            have HNW := Lib.hid hnw
            have wi : IntKind.i64.wrap ((i : Int) + 1) = i + 1 := by rw [IntKind.wrap_i64]; omega
            have hb7 : Below wr.heap.size wr (wr.alloc (.cells #[.int .u64 (x.1 : Int), .int .u64 (x.2.1 : Int), .slice E1 (onL x.2.2.1).length e1, .slice E2 (onL x.2.2.2).length e2] 48)) := (Below.refl _ _).alloc (Nat.le_refl _) _
            have hx7 := heap_alloc_new wr (.cells #[.int .u64 (x.1 : Int), .int .u64 (x.2.1 : Int), .slice E1 (onL x.2.2.1).length e1, .slice E2 (onL x.2.2.2).length e2] 48)
            have hz7 : (wr.alloc (.cells #[.int .u64 (x.1 : Int), .int .u64 (x.2.1 : Int), .slice E1 (onL x.2.2.1).length e1, .slice E2 (onL x.2.2.2).length e2] 48)).heap.size = wr.heap.size + 1 := by simp
            obtain ⟨W7, hW7⟩ : ∃ W7, wr.alloc (.cells #[.int .u64 (x.1 : Int), .int .u64 (x.2.1 : Int), .slice E1 (onL x.2.2.1).length e1, .slice E2 (onL x.2.2.2).length e2] 48) = W7 := ⟨_, rfl⟩
            rw [hW7] at hb7 hx7 hz7
            have HW7 := Lib.hid hW7
            have HT1 := Lib.hid ((tm1.below hb7).sl)
            have HT2 := Lib.hid ((tm2.below hb7).sl)
            have hk1 := tm1.sl.cap
            have hk2 := tm2.sl.cap
            have HB67 := Lib.hid (hbr.trans (hb7.mono hsr))
            obtain ⟨bx, hbx⟩ : ∃ bx, wr.heap.size = bx := ⟨_, rfl⟩
            rw [hbx] at hx7 hz7
            have h6x : w6.heap.size ≤ bx := by omega
            have hbxl : bx < W7.heap.size := by omega
            clear hW7 hLL hLz hlt1 hlt2 hsn hnw tm1 tm2 hcn hb7 hmem hbr
            go_wp2_with fail
            try rw [HW7.out]
            clear hbx HW7 p0 p1 p2 p3 hbal
            obtain ⟨q0, q1, q2, q3⟩ := cell4 hx7
            refine wp_region_held_drew (S := fun w' => w'.cell? ⟨bx, 2, none⟩ = some (.slice E1 (onL x.2.2.1).length e1) ∧ w'.cell? ⟨bx, 3, none⟩ = some (.slice E2 (onL x.2.2.2).length e2)) (by kernel_rfl) ⟨q2, q3⟩ (fun hS => ?_)
            refine wpAnyH_takeD (i := 1) (v := ?_) rfl (by kernel_rfl) (by kernel_rfl) (by kernel_rfl) (fun _ _ _ h => h) (Or.inl ⟨by kernel_rfl, ?_⟩) hS ?_
            rotate_left 1
            · (intro w' hSw; (try dsimp only at hSw); go_simp; try (with_reducible rfl))
            try simp only [Act.put, List.setIfInBounds_toArray, List.set_cons_zero, List.set_cons_succ]
            refine wpAnyH_takeD (i := 2) (v := ?_) rfl (by kernel_rfl) (by kernel_rfl) (by kernel_rfl) (fun _ _ _ h => h) (Or.inl ⟨by kernel_rfl, ?_⟩) hS ?_
            rotate_left 1
            · (intro w' hSw; (try dsimp only at hSw); go_simp; try (with_reducible rfl))
            try simp only [Act.put, List.setIfInBounds_toArray, List.set_cons_zero, List.set_cons_succ]
            refine wpAnyH_takeD (i := 4) (v := ?_) rfl (by kernel_rfl) (by kernel_rfl) (by kernel_rfl) (fun _ _ _ h => h) (Or.inl ⟨by kernel_rfl, ?_⟩) hS ?_
            rotate_left 1
            · (intro w' hSw; (try dsimp only at hSw); go_simp; try (with_reducible rfl))
            try simp only [Act.put, List.setIfInBounds_toArray, List.set_cons_zero, List.set_cons_succ]
            refine wpAnyH_takeD (i := 5) (v := ?_) rfl (by kernel_rfl) (by kernel_rfl) (by kernel_rfl) (fun _ _ _ h => h) (Or.inl ⟨by kernel_rfl, ?_⟩) hS ?_
            rotate_left 1
            · (intro w' hSw; (try dsimp only at hSw); go_simp; try (with_reducible rfl))
            try simp only [Act.put, List.setIfInBounds_toArray, List.set_cons_zero, List.set_cons_succ]
            refine wpAnyH_takeD (i := 8) (v := ?_) rfl (by kernel_rfl) (by kernel_rfl) (by kernel_rfl) (fun _ _ _ h => h) (Or.inl ⟨by kernel_rfl, ?_⟩) hS ?_
            rotate_left 1
            · (intro w' hSw; (try dsimp only at hSw); go_simp; try (with_reducible rfl))
            try simp only [Act.put, List.setIfInBounds_toArray, List.set_cons_zero, List.set_cons_succ]
            refine wpAnyH_oneD (i := 0) rfl (by kernel_rfl) (fun K hK => ?_)
            refine step_empty rfl 28 rfl 3 1 8 sliceInt ?_
            intro we ve hve hOe hbe hse
            have hbe0 : Below W7.heap.size W7 we := (Below.drew (Below.refl _ _)).trans hbe
            have hOe' : we.ownsRow W7.heap.size 3 1 ve 0 [] := hOe
            have hve2 : ve = .slice (some ⟨W7.heap.size, 0, none⟩) 0 0 := hve
            clear hve hOe hbe hse
            subst hve2
            refine hK.out _ _ ⟨(hbe0.cell (p := ⟨bx, 2, none⟩) hbxl).trans q2, (hbe0.cell (p := ⟨bx, 3, none⟩) hbxl).trans q3⟩ (fun hS => ?_)
            clear hK
            try simp only [Act.put, List.setIfInBounds_toArray, List.set_cons_zero, List.set_cons_succ]
            refine wpAnyH_oneD (i := 3) rfl (by kernel_rfl) (fun K hK => ?_)
            refine step_extend rfl (.tmp 71) (.tmp 73) 28 rfl W7.heap.size 3 1 8 sliceInt _ 0 [] hOe' (by rfl) W7.heap.size E1 (onL x.2.2.1).length e1 (icells (natI (onL x.2.2.1))) (by rfl) (HT1.out.below hbe0 (Nat.le_refl _)) (icells_one' _) (by omega) (by omega) hbe0.size ?_
            intro v1 wa hOa hta _ _
            have hba : Below W7.heap.size W7 wa := hbe0.trans (hta.below hbe0.size (fun k hk e => by have := (hOe'.lt k e).1; omega))
            refine hK.out _ _ ⟨(hba.cell (p := ⟨bx, 2, none⟩) hbxl).trans q2, (hba.cell (p := ⟨bx, 3, none⟩) hbxl).trans q3⟩ (fun hS => ?_)
            clear hK
            try simp only [Act.put, List.setIfInBounds_toArray, List.set_cons_zero, List.set_cons_succ]
            refine wpAnyH_oneD (i := 6) rfl (by kernel_rfl) (fun K hK => ?_)
            refine step_extend rfl (.tmp 74) (.tmp 76) 28 rfl W7.heap.size 3 1 8 sliceInt v1 (0 + (onL x.2.2.1).length) ([] ++ icells (natI (onL x.2.2.1))) hOa (by rfl) W7.heap.size E2 (onL x.2.2.2).length e2 (icells (natI (onL x.2.2.2))) (by rfl) (HT2.out.below hba (Nat.le_refl _)) (icells_one' _) (by omega) (by omega) hba.size ?_
            intro v2 w8 hO3 ht3 _ _
            have hb8 : Below W7.heap.size W7 w8 := hba.trans (ht3.below hba.size (fun k hk e => by have := (hOa.lt k e).1; omega))
            rw [List.nil_append, show icells (natI (onL x.2.2.1)) ++ icells (natI (onL x.2.2.2)) = icells (natI LL) by rw [← HLL.out]; simp [icells, natI], show 0 + (onL x.2.2.1).length + (onL x.2.2.2).length = LL.length by rw [← HLL.out, List.length_append, Nat.zero_add]] at hO3
            obtain ⟨AL, cL, hv2, hsl⟩ := own_sl hO3
            subst hv2
            refine hK.out _ _ ⟨(hb8.cell (p := ⟨bx, 2, none⟩) hbxl).trans q2, (hb8.cell (p := ⟨bx, 3, none⟩) hbxl).trans q3⟩ (fun hS => ?_)
            clear hK
            try simp only [Act.put, List.setIfInBounds_toArray, List.set_cons_zero, List.set_cons_succ]
            refine wpAnyH_takeD (i := 7) (v := ?_) rfl (by kernel_rfl) (by kernel_rfl) (by kernel_rfl) (fun _ _ _ h => h) (Or.inl ⟨by kernel_rfl, ?_⟩) hS ?_
            rotate_left 1
            · (intro w' hSw; (try dsimp only at hSw); go_simp; try (with_reducible rfl))
            try simp only [Act.put, List.setIfInBounds_toArray, List.set_cons_zero, List.set_cons_succ]
            refine wpAnyH_done (by kernel_rfl) ?_ _
            clear hOa hta ht3 hO3 hOe' hbe0 hba
            have HLS := Lib.hid hsl
            have hcL := hsl.cap
            replace q0 := (hb8.cell (p := ⟨bx, 0, none⟩) hbxl).trans q0
            replace q1 := (hb8.cell (p := ⟨bx, 1, none⟩) hbxl).trans q1
            replace q2 := (hb8.cell (p := ⟨bx, 2, none⟩) hbxl).trans q2
            replace q3 := (hb8.cell (p := ⟨bx, 3, none⟩) hbxl).trans q3
            replace hbxl : bx < w8.heap.size := Nat.lt_of_lt_of_le hbxl hb8.size
            have HB68 := Lib.hid (HB67.out.trans (hb8.mono HB67.out.size))
            have HT81 := Lib.hid (HT1.out.below hb8 (Nat.le_refl _) |>.up hb8.size)
            have HT82 := Lib.hid (HT2.out.below hb8 (Nat.le_refl _) |>.up hb8.size)
            have HQ8 := Lib.hid (And.intro q0 (And.intro q1 (And.intro q2 q3)))
            clear hsl hb8 hx7 hz7 HT1 HT2 HB67 q0 q1 q2 q3
            go_wp2_with fail
            go_loopw [79] (fun v wr => ∃ j : Nat, j ≤ LL.length ∧ v = .int .i64 j ∧ Below w8.heap.size w8 wr) (fun v _ => LL.length - (intOf v).toNat)
            case atStart => exact ⟨0, by omega, rfl, Below.refl _ _⟩
            case round =>
              obtain ⟨j, hj, rfl, hbj⟩ := hrel
              have hsj := hbj.size
              by_cases hjl : j < LL.length
              · obtain ⟨bb, o, rfl, hbb, hc0⟩ := HLS.out.rd.at_ (icells_at' (l := natI LL) (k := j) (by simp [natI]; exact hjl))
                rw [show (natI LL)[j]'(by simp [natI]; exact hjl) = ((LL[j] : Nat) : Int) by simp [natI]] at hc0
                have hcj := (hbj.cell (p := ⟨bb, o + j, none⟩) hbb).trans hc0
                have hzl := HLz.out LL[j] (List.getElem_mem hjl)
                generalize LL[j] = z at *
                have dz : decide (f.length ≤ z) = false := by simp; omega
                have wj : IntKind.i64.wrap ((j : Int) + 1) = j + 1 := by rw [IntKind.wrap_i64]; omega
                clear hc0 hzl
                go_wp2_with fail
                go_roundw
                case rel => exact ⟨j + 1, by omega, by go_num, hbj⟩
                case measure => simp [intOf]; omega
              · have hkl : j = LL.length := by omega
                subst hkl
                clear hjl
                obtain ⟨q0, q1, q2, q3⟩ := HQ8.out
                have b0 := (hbj.cell (p := ⟨bx, 0, none⟩) hbxl).trans q0
                have b1 := (hbj.cell (p := ⟨bx, 1, none⟩) hbxl).trans q1
                have b2 := (hbj.cell (p := ⟨bx, 2, none⟩) hbxl).trans q2
                have b3 := (hbj.cell (p := ⟨bx, 3, none⟩) hbxl).trans q3
                have hb6r := HB68.out.trans (hbj.mono HB68.out.size)
                have s0 := (hb6r.cell (p := ⟨bs, os + k, none⟩) hbs6).trans HSC.out
                have hbsl : bs < wr.heap.size := Nat.lt_of_lt_of_le hbs6 hb6r.size
                have hbxr : bx < wr.heap.size := Nat.lt_of_lt_of_le hbxl hsj
                have hbd : Below wr.heap.size wr wr.drew := Below.drew (Below.refl _ _)
                have hand1 := and_u64' (x := S) (y := x.1) hS64 (by omega)
                have hand2 := and_u64' (x := S) (y := x.2.1) hS64 (by omega)
                have hT1r := (HT81.out.below hbj (Nat.le_refl _)).up hsj
                have hT2r := (HT82.out.below hbj (Nat.le_refl _)).up hsj
                clear q0 q1 q2 q3
                by_cases hA : S &&& x.1 = x.1
                · by_cases hBn : S &&& x.2.1 = 0
                  · rw [hA] at hand1
                    rw [hBn] at hand2
                    obtain ⟨wd, hwd⟩ : ∃ wd, wr.drew = wd := ⟨_, rfl⟩
                    rw [hwd] at hbd
                    have HWD := Lib.hid hwd
                    have hb6d := hb6r.trans (hbd.mono hb6r.size)
                    have hall := all28_any w1 wd vt R (HG6.out.below hb6d) E1 (onL x.2.2.1).length e1 (onL x.2.2.1) wr.heap.size (hT1r.below hbd (Nat.le_refl _)) hbd.size rfl (n1) (fun z hz => by rw [HRl.out]; exact HL1.out z hz) (fun r hr => by rw [HRn.out r hr]; exact HNX.out) (by rw [HRl.out]; omega) (by omega) (by have := HNX.out; omega)
                    have hfit : fitB S x.1 x.2.1 (fun x => (R.getD x []).getD (n1) false) (onL x.2.2.1) = (onL x.2.2.1).all (fun x => (R.getD x []).getD (n1) false) := by
                      unfold fitB; rw [decide_eq_true hA, decide_eq_true hBn]; rfl
                    rw [← hfit] at hall
                    have HNow := Lib.hid (fun (w' : World) (hb : Below wr.heap.size wr w') (h : (onL x.2.2.2).all (fun x => (R.getD x []).getD k false) = true) => h ▸ all28_any w1 w' vt R (HG6.out.below (hb6r.trans (hb.mono hb6r.size))) E2 (onL x.2.2.2).length e2 (onL x.2.2.2) wr.heap.size (hT2r.below hb (Nat.le_refl _)) hb.size rfl k (fun z hz => by rw [HRl.out]; exact HL2.out z hz) (fun r hr => by rw [HRn.out r hr]; exact hkN) (by rw [HRl.out]; omega) (by omega) (by omega))
                    have hnw := HNW.out
                    cases hft : fitB S x.1 x.2.1 (fun x => (R.getD x []).getD (n1) false) (onL x.2.2.1)
                    · rw [hft] at hall
                      have HALL := Lib.hid hall
                      have HFT := Lib.hid hft
                      clear hall hfit hft hwd hA hBn hnw HNow
                      go_wp2_with fail
                      refine wp_region_held_drew (S := fun w' => w'.cell? ⟨bs, os + k, none⟩ = some (.int .u64 (S : Int)) ∧ w'.cell? ⟨bx, 0, none⟩ = some (.int .u64 (x.1 : Int)) ∧ w'.cell? ⟨bx, 1, none⟩ = some (.int .u64 (x.2.1 : Int)) ∧ w'.cell? ⟨bx, 2, none⟩ = some (.slice E1 (onL x.2.2.1).length e1)) (by kernel_rfl) ⟨s0, b0, b1, b2⟩ (fun hS => ?_)
                      refine wpAnyH_takeD (i := 0) (v := ?_) rfl (by kernel_rfl) (by kernel_rfl) (by kernel_rfl) (fun _ _ _ h => h) (Or.inl ⟨by kernel_rfl, ?_⟩) hS ?_
                      rotate_left 1
                      · (intro w' hSw; (try dsimp only at hSw); go_simp; try (with_reducible rfl))
                      try simp only [Act.put, List.setIfInBounds_toArray, List.set_cons_zero, List.set_cons_succ]
                      refine wpAnyH_takeD (i := 1) (v := ?_) rfl (by kernel_rfl) (by kernel_rfl) (by kernel_rfl) (fun _ _ _ h => h) (Or.inl ⟨by kernel_rfl, ?_⟩) hS ?_
                      rotate_left 1
                      · (intro w' hSw; (try dsimp only at hSw); go_simp; try (with_reducible rfl))
                      try simp only [Act.put, List.setIfInBounds_toArray, List.set_cons_zero, List.set_cons_succ]
                      refine wpAnyH_takeD (i := 2) (v := ?_) rfl (by kernel_rfl) (by kernel_rfl) (by kernel_rfl) (fun _ _ _ h => h) (Or.inl ⟨by kernel_rfl, ?_⟩) hS ?_
                      rotate_left 1
                      · (intro w' hSw; (try dsimp only at hSw); go_simp; try (with_reducible rfl))
                      try simp only [Act.put, List.setIfInBounds_toArray, List.set_cons_zero, List.set_cons_succ]
                      refine wpAnyH_takeD (i := 3) (v := ?_) rfl (by kernel_rfl) (by kernel_rfl) (by kernel_rfl) (fun _ _ _ h => h) (Or.inl ⟨by kernel_rfl, ?_⟩) hS ?_
                      rotate_left 1
                      · (intro w' hSw; (try dsimp only at hSw); go_simp; try (with_reducible rfl))
                      try simp only [Act.put, List.setIfInBounds_toArray, List.set_cons_zero, List.set_cons_succ]
                      refine wpAnyH_takeD (i := 4) (v := ?_) rfl (by kernel_rfl) (by kernel_rfl) (by kernel_rfl) (fun _ _ _ h => h) (Or.inl ⟨by kernel_rfl, ?_⟩) hS ?_
                      rotate_left 1
                      · (intro w' hSw; (try dsimp only at hSw); go_simp; try (with_reducible rfl))
                      try simp only [Act.put, List.setIfInBounds_toArray, List.set_cons_zero, List.set_cons_succ]
                      refine wpAnyH_takeD (i := 5) (v := ?_) rfl (by kernel_rfl) (by kernel_rfl) (by kernel_rfl) (fun _ _ _ h => h) (Or.inl ⟨by kernel_rfl, ?_⟩) hS ?_
                      rotate_left 1
                      · (intro w' hSw; (try dsimp only at hSw); go_simp; try (with_reducible rfl))
                      try simp only [Act.put, List.setIfInBounds_toArray, List.set_cons_zero, List.set_cons_succ]
                      refine wpAnyH_takeD (i := 6) (v := ?_) rfl (by kernel_rfl) (by kernel_rfl) (by kernel_rfl) (fun _ _ _ h => h) (Or.inl ⟨by kernel_rfl, ?_⟩) hS ?_
                      rotate_left 1
                      · (intro w' hSw; (try dsimp only at hSw); go_simp; try (with_reducible rfl))
                      try simp only [Act.put, List.setIfInBounds_toArray, List.set_cons_zero, List.set_cons_succ]
                      refine wpAnyH_takeD (i := 7) (v := ?_) rfl (by kernel_rfl) (by kernel_rfl) (by kernel_rfl) (fun _ _ _ h => h) (Or.inl ⟨by kernel_rfl, ?_⟩) hS ?_
                      rotate_left 1
                      · (intro w' hSw; (try dsimp only at hSw); go_simp; try (with_reducible rfl))
                      try simp only [Act.put, List.setIfInBounds_toArray, List.set_cons_zero, List.set_cons_succ]
                      refine wpAnyH_takeD (i := 8) (v := ?_) rfl (by kernel_rfl) (by kernel_rfl) (by kernel_rfl) (fun _ _ _ h => h) (Or.inl ⟨by kernel_rfl, ?_⟩) hS ?_
                      rotate_left 1
                      · (intro w' hSw; (try dsimp only at hSw); go_simp; try (with_reducible rfl))
                      try simp only [Act.put, List.setIfInBounds_toArray, List.set_cons_zero, List.set_cons_succ]
                      refine wpAnyH_takeD (i := 9) (v := ?_) rfl (by kernel_rfl) (by kernel_rfl) (by kernel_rfl) (fun _ _ _ h => h) (Or.inl ⟨by kernel_rfl, ?_⟩) hS ?_
                      rotate_left 1
                      · (intro w' hSw; (try dsimp only at hSw); go_simp; try (with_reducible rfl))
                      try simp only [Act.put, List.setIfInBounds_toArray, List.set_cons_zero, List.set_cons_succ]
                      refine wpAnyH_takeD (i := 10) (v := ?_) rfl (by kernel_rfl) (by kernel_rfl) (by kernel_rfl) (fun _ _ _ h => h) (Or.inl ⟨by kernel_rfl, ?_⟩) hS ?_
                      rotate_left 1
                      · (intro w' hSw; (try dsimp only at hSw); go_simp; try (with_reducible rfl))
                      try simp only [Act.put, List.setIfInBounds_toArray, List.set_cons_zero, List.set_cons_succ]
                      refine wpAnyH_takeD (i := 11) (v := ?_) rfl (by kernel_rfl) (by kernel_rfl) (by kernel_rfl) (fun _ _ _ h => h) (Or.inl ⟨by kernel_rfl, ?_⟩) hS ?_
                      rotate_left 1
                      · (intro w' hSw; (try dsimp only at hSw); go_simp; try (with_reducible rfl))
                      try simp only [Act.put, List.setIfInBounds_toArray, List.set_cons_zero, List.set_cons_succ]
                      refine wpAnyH_takeD (i := 12) (v := ?_) rfl (by kernel_rfl) (by kernel_rfl) (by kernel_rfl) (fun _ _ _ h => h) (Or.inl ⟨by kernel_rfl, ?_⟩) hS ?_
                      rotate_left 1
                      · (intro w' hSw; (try dsimp only at hSw); go_simp; try (with_reducible rfl))
                      try simp only [Act.put, List.setIfInBounds_toArray, List.set_cons_zero, List.set_cons_succ]
                      refine wpAnyH_takeD (i := 13) (v := ?_) rfl (by kernel_rfl) (by kernel_rfl) (by kernel_rfl) (fun _ _ _ h => h) (Or.inl ⟨by kernel_rfl, ?_⟩) hS ?_
                      rotate_left 1
                      · (intro w' hSw; (try dsimp only at hSw); go_simp; try (with_reducible rfl))
                      try simp only [Act.put, List.setIfInBounds_toArray, List.set_cons_zero, List.set_cons_succ]
                      refine wpAnyH_takeD (i := 14) (v := ?_) rfl (by kernel_rfl) (by kernel_rfl) (by kernel_rfl) (fun _ _ _ h => h) (Or.inl ⟨by kernel_rfl, ?_⟩) hS ?_
                      rotate_left 1
                      · (intro w' hSw; (try dsimp only at hSw); go_simp; try (with_reducible rfl))
                      try simp only [Act.put, List.setIfInBounds_toArray, List.set_cons_zero, List.set_cons_succ]
                      refine wpAnyH_takeD (i := 15) (v := ?_) rfl (by kernel_rfl) (by kernel_rfl) (by kernel_rfl) (fun _ _ _ h => h) (Or.inl ⟨by kernel_rfl, ?_⟩) hS ?_
                      rotate_left 1
                      · (intro w' hSw; (try dsimp only at hSw); go_simp; try (with_reducible rfl))
                      try simp only [Act.put, List.setIfInBounds_toArray, List.set_cons_zero, List.set_cons_succ]
                      refine wpAnyH_takeD (i := 16) (v := ?_) rfl (by kernel_rfl) (by kernel_rfl) (by kernel_rfl) (fun _ _ _ h => h) (Or.inl ⟨by kernel_rfl, ?_⟩) hS ?_
                      rotate_left 1
                      · (intro w' hSw; (try dsimp only at hSw); go_simp; try (with_reducible rfl))
                      try simp only [Act.put, List.setIfInBounds_toArray, List.set_cons_zero, List.set_cons_succ]
                      refine wpAnyH_takeD (i := 17) (v := ?_) rfl (by kernel_rfl) (by kernel_rfl) (by kernel_rfl) (fun _ _ _ h => h) (Or.inl ⟨by kernel_rfl, ?_⟩) hS ?_
                      rotate_left 1
                      · (intro w' hSw; (try dsimp only at hSw); go_simp; try (with_reducible rfl))
                      try simp only [Act.put, List.setIfInBounds_toArray, List.set_cons_zero, List.set_cons_succ]
                      refine wpAnyH_takeD (i := 18) (v := ?_) rfl (by kernel_rfl) (by kernel_rfl) (by kernel_rfl) (fun _ _ _ h => h) (Or.inl ⟨by kernel_rfl, ?_⟩) hS ?_
                      rotate_left 1
                      · (intro w' hSw; (try dsimp only at hSw); go_simp; try (with_reducible rfl))
                      try simp only [Act.put, List.setIfInBounds_toArray, List.set_cons_zero, List.set_cons_succ]
                      refine wpAnyH_takeD (i := 19) (v := ?_) rfl (by kernel_rfl) (by kernel_rfl) (by kernel_rfl) (fun _ _ _ h => h) (Or.inl ⟨by kernel_rfl, ?_⟩) hS ?_
                      rotate_left 1
                      · (intro w' hSw; (try dsimp only at hSw); go_simp; try (with_reducible rfl))
                      try simp only [Act.put, List.setIfInBounds_toArray, List.set_cons_zero, List.set_cons_succ]
                      refine wpAnyH_takeD (i := 20) (v := ?_) rfl (by kernel_rfl) (by kernel_rfl) (by kernel_rfl) (fun _ _ _ h => h) (Or.inl ⟨by kernel_rfl, ?_⟩) hS ?_
                      rotate_left 1
                      · (intro w' hSw; (try dsimp only at hSw); go_simp; try (with_reducible rfl))
                      try simp only [Act.put, List.setIfInBounds_toArray, List.set_cons_zero, List.set_cons_succ]
                      refine wpAnyH_takeD (i := 21) (v := ?_) rfl (by kernel_rfl) (by kernel_rfl) (by kernel_rfl) (fun _ _ _ h => h) (Or.inl ⟨by kernel_rfl, ?_⟩) hS ?_
                      rotate_left 1
                      · (intro w' hSw; (try dsimp only at hSw); go_simp; try (with_reducible rfl))
                      try simp only [Act.put, List.setIfInBounds_toArray, List.set_cons_zero, List.set_cons_succ]
                      refine wpAnyH_takeD (i := 22) (v := ?_) rfl (by kernel_rfl) (by kernel_rfl) (by kernel_rfl) (fun _ _ _ h => h) (Or.inl ⟨by kernel_rfl, ?_⟩) hS ?_
                      rotate_left 1
                      · (intro w' hSw; (try dsimp only at hSw); go_simp; try (with_reducible rfl))
                      try simp only [Act.put, List.setIfInBounds_toArray, List.set_cons_zero, List.set_cons_succ]
                      refine wpAnyH_takeD (i := 23) (v := ?_) rfl (by kernel_rfl) (by kernel_rfl) (by kernel_rfl) (fun _ _ _ h => h) (Or.inl ⟨by kernel_rfl, ?_⟩) hS ?_
                      rotate_left 1
                      · (intro w' hSw; (try dsimp only at hSw); go_simp; try (with_reducible rfl))
                      try simp only [Act.put, List.setIfInBounds_toArray, List.set_cons_zero, List.set_cons_succ]
                      refine wpAnyH_takeD (i := 24) (v := ?_) rfl (by kernel_rfl) (by kernel_rfl) (by kernel_rfl) (fun _ _ _ h => h) (Or.inl ⟨by kernel_rfl, ?_⟩) hS ?_
                      rotate_left 1
                      · (intro w' hSw; (try dsimp only at hSw); go_simp; try (with_reducible rfl))
                      try simp only [Act.put, List.setIfInBounds_toArray, List.set_cons_zero, List.set_cons_succ]
                      refine wpAnyH_oneD (i := 25) rfl (by kernel_rfl) (fun K hK => ?_)
                      rw [if_pos (by kernel_rfl)]
                      go_simp
                      rw [HWD.out]
                      refine Calls.mono HALL.out ?_
                      rintro e w9 ⟨rfl, hb9'⟩
                      have hb9 : Below wr.heap.size wr w9 := hbd.trans (hb9'.mono hbd.size)
                      clear hb9'
                      dsimp only
                      refine hK.out _ _ ⟨(hb9.cell (p := ⟨bs, os + k, none⟩) hbsl).trans s0, (hb9.cell (p := ⟨bx, 0, none⟩) hbxr).trans b0, (hb9.cell (p := ⟨bx, 1, none⟩) hbxr).trans b1, (hb9.cell (p := ⟨bx, 2, none⟩) hbxr).trans b2⟩ (fun hS => ?_)
                      clear hK
                      try simp only [Act.put, List.setIfInBounds_toArray, List.set_cons_zero, List.set_cons_succ]
                      refine wpAnyH_takeD (i := 26) (v := ?_) rfl (by kernel_rfl) (by kernel_rfl) (by kernel_rfl) (fun _ _ _ h => h) (Or.inl ⟨by kernel_rfl, ?_⟩) hS ?_
                      rotate_left 1
                      · (intro w' hSw; (try dsimp only at hSw); go_simp; try (with_reducible rfl))
                      try simp only [Act.put, List.setIfInBounds_toArray, List.set_cons_zero, List.set_cons_succ]
                      refine wpAnyH_done (by kernel_rfl) ?_ _
                      go_wp2_with fail
                      go_roundw
                      case rel => exact ⟨i + 1, b, by omega, by go_num, rfl, by show _ = _; rw [HSN.out, HFT.out, Bool.or_false]; exact HQ.out, hb6r.trans (hb9.mono hb6r.size)⟩
                      case measure => simp [intOf]; omega
                    · rw [hft] at hall
                      have HALL := Lib.hid hall
                      have HFT := Lib.hid hft
                      have HNX2 := Lib.hid (hnw hft)
                      clear hall hfit hft hwd hA hBn hnw
                      go_wp2_with fail
                      refine wp_region_held_drew (S := fun w' => w'.cell? ⟨bs, os + k, none⟩ = some (.int .u64 (S : Int)) ∧ w'.cell? ⟨bx, 0, none⟩ = some (.int .u64 (x.1 : Int)) ∧ w'.cell? ⟨bx, 1, none⟩ = some (.int .u64 (x.2.1 : Int)) ∧ w'.cell? ⟨bx, 2, none⟩ = some (.slice E1 (onL x.2.2.1).length e1)) (by kernel_rfl) ⟨s0, b0, b1, b2⟩ (fun hS => ?_)
                      refine wpAnyH_takeD (i := 0) (v := ?_) rfl (by kernel_rfl) (by kernel_rfl) (by kernel_rfl) (fun _ _ _ h => h) (Or.inl ⟨by kernel_rfl, ?_⟩) hS ?_
                      rotate_left 1
                      · (intro w' hSw; (try dsimp only at hSw); go_simp; try (with_reducible rfl))
                      try simp only [Act.put, List.setIfInBounds_toArray, List.set_cons_zero, List.set_cons_succ]
                      refine wpAnyH_takeD (i := 1) (v := ?_) rfl (by kernel_rfl) (by kernel_rfl) (by kernel_rfl) (fun _ _ _ h => h) (Or.inl ⟨by kernel_rfl, ?_⟩) hS ?_
                      rotate_left 1
                      · (intro w' hSw; (try dsimp only at hSw); go_simp; try (with_reducible rfl))
                      try simp only [Act.put, List.setIfInBounds_toArray, List.set_cons_zero, List.set_cons_succ]
                      refine wpAnyH_takeD (i := 2) (v := ?_) rfl (by kernel_rfl) (by kernel_rfl) (by kernel_rfl) (fun _ _ _ h => h) (Or.inl ⟨by kernel_rfl, ?_⟩) hS ?_
                      rotate_left 1
                      · (intro w' hSw; (try dsimp only at hSw); go_simp; try (with_reducible rfl))
                      try simp only [Act.put, List.setIfInBounds_toArray, List.set_cons_zero, List.set_cons_succ]
                      refine wpAnyH_takeD (i := 3) (v := ?_) rfl (by kernel_rfl) (by kernel_rfl) (by kernel_rfl) (fun _ _ _ h => h) (Or.inl ⟨by kernel_rfl, ?_⟩) hS ?_
                      rotate_left 1
                      · (intro w' hSw; (try dsimp only at hSw); go_simp; try (with_reducible rfl))
                      try simp only [Act.put, List.setIfInBounds_toArray, List.set_cons_zero, List.set_cons_succ]
                      refine wpAnyH_takeD (i := 4) (v := ?_) rfl (by kernel_rfl) (by kernel_rfl) (by kernel_rfl) (fun _ _ _ h => h) (Or.inl ⟨by kernel_rfl, ?_⟩) hS ?_
                      rotate_left 1
                      · (intro w' hSw; (try dsimp only at hSw); go_simp; try (with_reducible rfl))
                      try simp only [Act.put, List.setIfInBounds_toArray, List.set_cons_zero, List.set_cons_succ]
                      refine wpAnyH_takeD (i := 5) (v := ?_) rfl (by kernel_rfl) (by kernel_rfl) (by kernel_rfl) (fun _ _ _ h => h) (Or.inl ⟨by kernel_rfl, ?_⟩) hS ?_
                      rotate_left 1
                      · (intro w' hSw; (try dsimp only at hSw); go_simp; try (with_reducible rfl))
                      try simp only [Act.put, List.setIfInBounds_toArray, List.set_cons_zero, List.set_cons_succ]
                      refine wpAnyH_takeD (i := 6) (v := ?_) rfl (by kernel_rfl) (by kernel_rfl) (by kernel_rfl) (fun _ _ _ h => h) (Or.inl ⟨by kernel_rfl, ?_⟩) hS ?_
                      rotate_left 1
                      · (intro w' hSw; (try dsimp only at hSw); go_simp; try (with_reducible rfl))
                      try simp only [Act.put, List.setIfInBounds_toArray, List.set_cons_zero, List.set_cons_succ]
                      refine wpAnyH_takeD (i := 7) (v := ?_) rfl (by kernel_rfl) (by kernel_rfl) (by kernel_rfl) (fun _ _ _ h => h) (Or.inl ⟨by kernel_rfl, ?_⟩) hS ?_
                      rotate_left 1
                      · (intro w' hSw; (try dsimp only at hSw); go_simp; try (with_reducible rfl))
                      try simp only [Act.put, List.setIfInBounds_toArray, List.set_cons_zero, List.set_cons_succ]
                      refine wpAnyH_takeD (i := 8) (v := ?_) rfl (by kernel_rfl) (by kernel_rfl) (by kernel_rfl) (fun _ _ _ h => h) (Or.inl ⟨by kernel_rfl, ?_⟩) hS ?_
                      rotate_left 1
                      · (intro w' hSw; (try dsimp only at hSw); go_simp; try (with_reducible rfl))
                      try simp only [Act.put, List.setIfInBounds_toArray, List.set_cons_zero, List.set_cons_succ]
                      refine wpAnyH_takeD (i := 9) (v := ?_) rfl (by kernel_rfl) (by kernel_rfl) (by kernel_rfl) (fun _ _ _ h => h) (Or.inl ⟨by kernel_rfl, ?_⟩) hS ?_
                      rotate_left 1
                      · (intro w' hSw; (try dsimp only at hSw); go_simp; try (with_reducible rfl))
                      try simp only [Act.put, List.setIfInBounds_toArray, List.set_cons_zero, List.set_cons_succ]
                      refine wpAnyH_takeD (i := 10) (v := ?_) rfl (by kernel_rfl) (by kernel_rfl) (by kernel_rfl) (fun _ _ _ h => h) (Or.inl ⟨by kernel_rfl, ?_⟩) hS ?_
                      rotate_left 1
                      · (intro w' hSw; (try dsimp only at hSw); go_simp; try (with_reducible rfl))
                      try simp only [Act.put, List.setIfInBounds_toArray, List.set_cons_zero, List.set_cons_succ]
                      refine wpAnyH_takeD (i := 11) (v := ?_) rfl (by kernel_rfl) (by kernel_rfl) (by kernel_rfl) (fun _ _ _ h => h) (Or.inl ⟨by kernel_rfl, ?_⟩) hS ?_
                      rotate_left 1
                      · (intro w' hSw; (try dsimp only at hSw); go_simp; try (with_reducible rfl))
                      try simp only [Act.put, List.setIfInBounds_toArray, List.set_cons_zero, List.set_cons_succ]
                      refine wpAnyH_takeD (i := 12) (v := ?_) rfl (by kernel_rfl) (by kernel_rfl) (by kernel_rfl) (fun _ _ _ h => h) (Or.inl ⟨by kernel_rfl, ?_⟩) hS ?_
                      rotate_left 1
                      · (intro w' hSw; (try dsimp only at hSw); go_simp; try (with_reducible rfl))
                      try simp only [Act.put, List.setIfInBounds_toArray, List.set_cons_zero, List.set_cons_succ]
                      refine wpAnyH_takeD (i := 13) (v := ?_) rfl (by kernel_rfl) (by kernel_rfl) (by kernel_rfl) (fun _ _ _ h => h) (Or.inl ⟨by kernel_rfl, ?_⟩) hS ?_
                      rotate_left 1
                      · (intro w' hSw; (try dsimp only at hSw); go_simp; try (with_reducible rfl))
                      try simp only [Act.put, List.setIfInBounds_toArray, List.set_cons_zero, List.set_cons_succ]
                      refine wpAnyH_takeD (i := 14) (v := ?_) rfl (by kernel_rfl) (by kernel_rfl) (by kernel_rfl) (fun _ _ _ h => h) (Or.inl ⟨by kernel_rfl, ?_⟩) hS ?_
                      rotate_left 1
                      · (intro w' hSw; (try dsimp only at hSw); go_simp; try (with_reducible rfl))
                      try simp only [Act.put, List.setIfInBounds_toArray, List.set_cons_zero, List.set_cons_succ]
                      refine wpAnyH_takeD (i := 15) (v := ?_) rfl (by kernel_rfl) (by kernel_rfl) (by kernel_rfl) (fun _ _ _ h => h) (Or.inl ⟨by kernel_rfl, ?_⟩) hS ?_
                      rotate_left 1
                      · (intro w' hSw; (try dsimp only at hSw); go_simp; try (with_reducible rfl))
                      try simp only [Act.put, List.setIfInBounds_toArray, List.set_cons_zero, List.set_cons_succ]
                      refine wpAnyH_takeD (i := 16) (v := ?_) rfl (by kernel_rfl) (by kernel_rfl) (by kernel_rfl) (fun _ _ _ h => h) (Or.inl ⟨by kernel_rfl, ?_⟩) hS ?_
                      rotate_left 1
                      · (intro w' hSw; (try dsimp only at hSw); go_simp; try (with_reducible rfl))
                      try simp only [Act.put, List.setIfInBounds_toArray, List.set_cons_zero, List.set_cons_succ]
                      refine wpAnyH_takeD (i := 17) (v := ?_) rfl (by kernel_rfl) (by kernel_rfl) (by kernel_rfl) (fun _ _ _ h => h) (Or.inl ⟨by kernel_rfl, ?_⟩) hS ?_
                      rotate_left 1
                      · (intro w' hSw; (try dsimp only at hSw); go_simp; try (with_reducible rfl))
                      try simp only [Act.put, List.setIfInBounds_toArray, List.set_cons_zero, List.set_cons_succ]
                      refine wpAnyH_takeD (i := 18) (v := ?_) rfl (by kernel_rfl) (by kernel_rfl) (by kernel_rfl) (fun _ _ _ h => h) (Or.inl ⟨by kernel_rfl, ?_⟩) hS ?_
                      rotate_left 1
                      · (intro w' hSw; (try dsimp only at hSw); go_simp; try (with_reducible rfl))
                      try simp only [Act.put, List.setIfInBounds_toArray, List.set_cons_zero, List.set_cons_succ]
                      refine wpAnyH_takeD (i := 19) (v := ?_) rfl (by kernel_rfl) (by kernel_rfl) (by kernel_rfl) (fun _ _ _ h => h) (Or.inl ⟨by kernel_rfl, ?_⟩) hS ?_
                      rotate_left 1
                      · (intro w' hSw; (try dsimp only at hSw); go_simp; try (with_reducible rfl))
                      try simp only [Act.put, List.setIfInBounds_toArray, List.set_cons_zero, List.set_cons_succ]
                      refine wpAnyH_takeD (i := 20) (v := ?_) rfl (by kernel_rfl) (by kernel_rfl) (by kernel_rfl) (fun _ _ _ h => h) (Or.inl ⟨by kernel_rfl, ?_⟩) hS ?_
                      rotate_left 1
                      · (intro w' hSw; (try dsimp only at hSw); go_simp; try (with_reducible rfl))
                      try simp only [Act.put, List.setIfInBounds_toArray, List.set_cons_zero, List.set_cons_succ]
                      refine wpAnyH_takeD (i := 21) (v := ?_) rfl (by kernel_rfl) (by kernel_rfl) (by kernel_rfl) (fun _ _ _ h => h) (Or.inl ⟨by kernel_rfl, ?_⟩) hS ?_
                      rotate_left 1
                      · (intro w' hSw; (try dsimp only at hSw); go_simp; try (with_reducible rfl))
                      try simp only [Act.put, List.setIfInBounds_toArray, List.set_cons_zero, List.set_cons_succ]
                      refine wpAnyH_takeD (i := 22) (v := ?_) rfl (by kernel_rfl) (by kernel_rfl) (by kernel_rfl) (fun _ _ _ h => h) (Or.inl ⟨by kernel_rfl, ?_⟩) hS ?_
                      rotate_left 1
                      · (intro w' hSw; (try dsimp only at hSw); go_simp; try (with_reducible rfl))
                      try simp only [Act.put, List.setIfInBounds_toArray, List.set_cons_zero, List.set_cons_succ]
                      refine wpAnyH_takeD (i := 23) (v := ?_) rfl (by kernel_rfl) (by kernel_rfl) (by kernel_rfl) (fun _ _ _ h => h) (Or.inl ⟨by kernel_rfl, ?_⟩) hS ?_
                      rotate_left 1
                      · (intro w' hSw; (try dsimp only at hSw); go_simp; try (with_reducible rfl))
                      try simp only [Act.put, List.setIfInBounds_toArray, List.set_cons_zero, List.set_cons_succ]
                      refine wpAnyH_takeD (i := 24) (v := ?_) rfl (by kernel_rfl) (by kernel_rfl) (by kernel_rfl) (fun _ _ _ h => h) (Or.inl ⟨by kernel_rfl, ?_⟩) hS ?_
                      rotate_left 1
                      · (intro w' hSw; (try dsimp only at hSw); go_simp; try (with_reducible rfl))
                      try simp only [Act.put, List.setIfInBounds_toArray, List.set_cons_zero, List.set_cons_succ]
                      refine wpAnyH_oneD (i := 25) rfl (by kernel_rfl) (fun K hK => ?_)
                      rw [if_pos (by kernel_rfl)]
                      go_simp
                      rw [HWD.out]
                      refine Calls.mono HALL.out ?_
                      rintro e w9 ⟨rfl, hb9'⟩
                      have hb9 : Below wr.heap.size wr w9 := hbd.trans (hb9'.mono hbd.size)
                      clear hb9'
                      dsimp only
                      refine hK.out _ _ ⟨(hb9.cell (p := ⟨bs, os + k, none⟩) hbsl).trans s0, (hb9.cell (p := ⟨bx, 0, none⟩) hbxr).trans b0, (hb9.cell (p := ⟨bx, 1, none⟩) hbxr).trans b1, (hb9.cell (p := ⟨bx, 2, none⟩) hbxr).trans b2⟩ (fun hS => ?_)
                      clear hK
                      try simp only [Act.put, List.setIfInBounds_toArray, List.set_cons_zero, List.set_cons_succ]
                      refine wpAnyH_takeD (i := 26) (v := ?_) rfl (by kernel_rfl) (by kernel_rfl) (by kernel_rfl) (fun _ _ _ h => h) (Or.inl ⟨by kernel_rfl, ?_⟩) hS ?_
                      rotate_left 1
                      · (intro w' hSw; (try dsimp only at hSw); go_simp; try (with_reducible rfl))
                      try simp only [Act.put, List.setIfInBounds_toArray, List.set_cons_zero, List.set_cons_succ]
                      refine wpAnyH_done (by kernel_rfl) ?_ _
                      have hb39 := (hb9.cell (p := ⟨bx, 3, none⟩) hbxr).trans b3
                      have HN9 := Lib.hid (HNow.out w9 hb9 HNX2.out)
                      clear HNow
                      go_wp2_with fail
                      refine Calls.mono HN9.out ?_
                      rintro e wx ⟨rfl, hbx9⟩
                      have hb6x := (hb6r.trans (hb9.mono hb6r.size)).trans (hbx9.mono (hb6r.trans (hb9.mono hb6r.size)).size)
                      go_wp2_with fail
                      go_roundw
                      case rel => exact ⟨i + 1, true, by omega, by go_num, rfl, by show _ = _; rw [HSN.out, HFT.out, Bool.or_true], hb6x⟩
                      case measure => simp [intOf]; omega
                  · have hfit : fitB S x.1 x.2.1 (fun x => (R.getD x []).getD (n1) false) (onL x.2.2.1) = false := by
                      unfold fitB; rw [decide_eq_false hBn]; simp
                    have HFT := Lib.hid hfit
                    rw [hA] at hand1
                    obtain ⟨zz, hzz⟩ : ∃ zz, S &&& x.2.1 = zz := ⟨_, rfl⟩
                    rw [hzz] at hand2 hBn
                    have hne : (((zz : Nat) : Int) == 0) = false := by simpa using hBn
                    clear hfit hA hBn hzz
                    go_wp2_with fail
                    refine wp_region_held_drew (S := fun w' => w'.cell? ⟨bs, os + k, none⟩ = some (.int .u64 (S : Int)) ∧ w'.cell? ⟨bx, 0, none⟩ = some (.int .u64 (x.1 : Int)) ∧ w'.cell? ⟨bx, 1, none⟩ = some (.int .u64 (x.2.1 : Int)) ∧ w'.cell? ⟨bx, 2, none⟩ = some (.slice E1 (onL x.2.2.1).length e1)) (by kernel_rfl) ⟨s0, b0, b1, b2⟩ (fun hS => ?_)
                    refine wpAnyH_takeD (i := 0) (v := ?_) rfl (by kernel_rfl) (by kernel_rfl) (by kernel_rfl) (fun _ _ _ h => h) (Or.inl ⟨by kernel_rfl, ?_⟩) hS ?_
                    rotate_left 1
                    · (intro w' hSw; (try dsimp only at hSw); go_simp; try (with_reducible rfl))
                    try simp only [Act.put, List.setIfInBounds_toArray, List.set_cons_zero, List.set_cons_succ]
                    refine wpAnyH_takeD (i := 1) (v := ?_) rfl (by kernel_rfl) (by kernel_rfl) (by kernel_rfl) (fun _ _ _ h => h) (Or.inl ⟨by kernel_rfl, ?_⟩) hS ?_
                    rotate_left 1
                    · (intro w' hSw; (try dsimp only at hSw); go_simp; try (with_reducible rfl))
                    try simp only [Act.put, List.setIfInBounds_toArray, List.set_cons_zero, List.set_cons_succ]
                    refine wpAnyH_takeD (i := 2) (v := ?_) rfl (by kernel_rfl) (by kernel_rfl) (by kernel_rfl) (fun _ _ _ h => h) (Or.inl ⟨by kernel_rfl, ?_⟩) hS ?_
                    rotate_left 1
                    · (intro w' hSw; (try dsimp only at hSw); go_simp; try (with_reducible rfl))
                    try simp only [Act.put, List.setIfInBounds_toArray, List.set_cons_zero, List.set_cons_succ]
                    refine wpAnyH_takeD (i := 3) (v := ?_) rfl (by kernel_rfl) (by kernel_rfl) (by kernel_rfl) (fun _ _ _ h => h) (Or.inl ⟨by kernel_rfl, ?_⟩) hS ?_
                    rotate_left 1
                    · (intro w' hSw; (try dsimp only at hSw); go_simp; try (with_reducible rfl))
                    try simp only [Act.put, List.setIfInBounds_toArray, List.set_cons_zero, List.set_cons_succ]
                    refine wpAnyH_takeD (i := 4) (v := ?_) rfl (by kernel_rfl) (by kernel_rfl) (by kernel_rfl) (fun _ _ _ h => h) (Or.inl ⟨by kernel_rfl, ?_⟩) hS ?_
                    rotate_left 1
                    · (intro w' hSw; (try dsimp only at hSw); go_simp; try (with_reducible rfl))
                    try simp only [Act.put, List.setIfInBounds_toArray, List.set_cons_zero, List.set_cons_succ]
                    refine wpAnyH_takeD (i := 5) (v := ?_) rfl (by kernel_rfl) (by kernel_rfl) (by kernel_rfl) (fun _ _ _ h => h) (Or.inl ⟨by kernel_rfl, ?_⟩) hS ?_
                    rotate_left 1
                    · (intro w' hSw; (try dsimp only at hSw); go_simp; try (with_reducible rfl))
                    try simp only [Act.put, List.setIfInBounds_toArray, List.set_cons_zero, List.set_cons_succ]
                    refine wpAnyH_takeD (i := 6) (v := ?_) rfl (by kernel_rfl) (by kernel_rfl) (by kernel_rfl) (fun _ _ _ h => h) (Or.inl ⟨by kernel_rfl, ?_⟩) hS ?_
                    rotate_left 1
                    · (intro w' hSw; (try dsimp only at hSw); go_simp; try (with_reducible rfl))
                    try simp only [Act.put, List.setIfInBounds_toArray, List.set_cons_zero, List.set_cons_succ]
                    refine wpAnyH_takeD (i := 7) (v := ?_) rfl (by kernel_rfl) (by kernel_rfl) (by kernel_rfl) (fun _ _ _ h => h) (Or.inl ⟨by kernel_rfl, ?_⟩) hS ?_
                    rotate_left 1
                    · (intro w' hSw; (try dsimp only at hSw); go_simp; try (with_reducible rfl))
                    try simp only [Act.put, List.setIfInBounds_toArray, List.set_cons_zero, List.set_cons_succ]
                    refine wpAnyH_takeD (i := 8) (v := ?_) rfl (by kernel_rfl) (by kernel_rfl) (by kernel_rfl) (fun _ _ _ h => h) (Or.inl ⟨by kernel_rfl, ?_⟩) hS ?_
                    rotate_left 1
                    · (intro w' hSw; (try dsimp only at hSw); go_simp; try (with_reducible rfl))
                    try simp only [Act.put, List.setIfInBounds_toArray, List.set_cons_zero, List.set_cons_succ]
                    refine wpAnyH_takeD (i := 9) (v := ?_) rfl (by kernel_rfl) (by kernel_rfl) (by kernel_rfl) (fun _ _ _ h => h) (Or.inl ⟨by kernel_rfl, ?_⟩) hS ?_
                    rotate_left 1
                    · (intro w' hSw; (try dsimp only at hSw); go_simp; try (with_reducible rfl))
                    try simp only [Act.put, List.setIfInBounds_toArray, List.set_cons_zero, List.set_cons_succ]
                    refine wpAnyH_takeD (i := 10) (v := ?_) rfl (by kernel_rfl) (by kernel_rfl) (by kernel_rfl) (fun _ _ _ h => h) (Or.inl ⟨by kernel_rfl, ?_⟩) hS ?_
                    rotate_left 1
                    · (intro w' hSw; (try dsimp only at hSw); go_simp; try (with_reducible rfl))
                    try simp only [Act.put, List.setIfInBounds_toArray, List.set_cons_zero, List.set_cons_succ]
                    refine wpAnyH_takeD (i := 11) (v := ?_) rfl (by kernel_rfl) (by kernel_rfl) (by kernel_rfl) (fun _ _ _ h => h) (Or.inl ⟨by kernel_rfl, ?_⟩) hS ?_
                    rotate_left 1
                    · (intro w' hSw; (try dsimp only at hSw); go_simp; try (with_reducible rfl))
                    try simp only [Act.put, List.setIfInBounds_toArray, List.set_cons_zero, List.set_cons_succ]
                    refine wpAnyH_takeD (i := 12) (v := ?_) rfl (by kernel_rfl) (by kernel_rfl) (by kernel_rfl) (fun _ _ _ h => h) (Or.inl ⟨by kernel_rfl, ?_⟩) hS ?_
                    rotate_left 1
                    · (intro w' hSw; (try dsimp only at hSw); go_simp; try (with_reducible rfl))
                    try simp only [Act.put, List.setIfInBounds_toArray, List.set_cons_zero, List.set_cons_succ]
                    refine wpAnyH_takeD (i := 13) (v := ?_) rfl (by kernel_rfl) (by kernel_rfl) (by kernel_rfl) (fun _ _ _ h => h) (Or.inl ⟨by kernel_rfl, ?_⟩) hS ?_
                    rotate_left 1
                    · (intro w' hSw; (try dsimp only at hSw); go_simp; try (with_reducible rfl))
                    try simp only [Act.put, List.setIfInBounds_toArray, List.set_cons_zero, List.set_cons_succ]
                    refine wpAnyH_takeD (i := 14) (v := ?_) rfl (by kernel_rfl) (by kernel_rfl) (by kernel_rfl) (fun _ _ _ h => h) (Or.inl ⟨by kernel_rfl, ?_⟩) hS ?_
                    rotate_left 1
                    · (intro w' hSw; (try dsimp only at hSw); go_simp; try (with_reducible rfl))
                    try simp only [Act.put, List.setIfInBounds_toArray, List.set_cons_zero, List.set_cons_succ]
                    refine wpAnyH_takeD (i := 15) (v := ?_) rfl (by kernel_rfl) (by kernel_rfl) (by kernel_rfl) (fun _ _ _ h => h) (Or.inl ⟨by kernel_rfl, ?_⟩) hS ?_
                    rotate_left 1
                    · (intro w' hSw; (try dsimp only at hSw); go_simp; try (with_reducible rfl))
                    try simp only [Act.put, List.setIfInBounds_toArray, List.set_cons_zero, List.set_cons_succ]
                    refine wpAnyH_takeD (i := 16) (v := ?_) rfl (by kernel_rfl) (by kernel_rfl) (by kernel_rfl) (fun _ _ _ h => h) (Or.inl ⟨by kernel_rfl, ?_⟩) hS ?_
                    rotate_left 1
                    · (intro w' hSw; (try dsimp only at hSw); go_simp; try (with_reducible rfl))
                    try simp only [Act.put, List.setIfInBounds_toArray, List.set_cons_zero, List.set_cons_succ]
                    refine wpAnyH_takeD (i := 17) (v := ?_) rfl (by kernel_rfl) (by kernel_rfl) (by kernel_rfl) (fun _ _ _ h => h) (Or.inl ⟨by kernel_rfl, ?_⟩) hS ?_
                    rotate_left 1
                    · (intro w' hSw; (try dsimp only at hSw); go_simp; try (with_reducible rfl))
                    try simp only [Act.put, List.setIfInBounds_toArray, List.set_cons_zero, List.set_cons_succ]
                    refine wpAnyH_takeD (i := 18) (v := ?_) rfl (by kernel_rfl) (by kernel_rfl) (by kernel_rfl) (fun _ _ _ h => h) (Or.inl ⟨by kernel_rfl, ?_⟩) hS ?_
                    rotate_left 1
                    · (intro w' hSw; (try dsimp only at hSw); go_simp; try (with_reducible rfl))
                    try simp only [Act.put, List.setIfInBounds_toArray, List.set_cons_zero, List.set_cons_succ]
                    refine wpAnyH_takeD (i := 19) (v := ?_) rfl (by kernel_rfl) (by kernel_rfl) (by kernel_rfl) (fun _ _ _ h => h) (Or.inl ⟨by kernel_rfl, ?_⟩) hS ?_
                    rotate_left 1
                    · (intro w' hSw; (try dsimp only at hSw); go_simp; try (with_reducible rfl))
                    try simp only [Act.put, List.setIfInBounds_toArray, List.set_cons_zero, List.set_cons_succ]
                    refine wpAnyH_takeD (i := 20) (v := ?_) rfl (by kernel_rfl) (by kernel_rfl) (by kernel_rfl) (fun _ _ _ h => h) (Or.inl ⟨by kernel_rfl, ?_⟩) hS ?_
                    rotate_left 1
                    · (intro w' hSw; (try dsimp only at hSw); go_simp; try (with_reducible rfl))
                    try simp only [Act.put, List.setIfInBounds_toArray, List.set_cons_zero, List.set_cons_succ]
                    refine wpAnyH_takeD (i := 21) (v := undef) rfl (by kernel_rfl) (by kernel_rfl) (by kernel_rfl) (fun _ _ _ h => h) (Or.inr ⟨by kernel_rfl, rfl⟩) hS ?_
                    try simp only [Act.put, List.setIfInBounds_toArray, List.set_cons_zero, List.set_cons_succ]
                    refine wpAnyH_takeD (i := 22) (v := undef) rfl (by kernel_rfl) (by kernel_rfl) (by kernel_rfl) (fun _ _ _ h => h) (Or.inr ⟨by kernel_rfl, rfl⟩) hS ?_
                    try simp only [Act.put, List.setIfInBounds_toArray, List.set_cons_zero, List.set_cons_succ]
                    refine wpAnyH_takeD (i := 23) (v := undef) rfl (by kernel_rfl) (by kernel_rfl) (by kernel_rfl) (fun _ _ _ h => h) (Or.inr ⟨by kernel_rfl, rfl⟩) hS ?_
                    try simp only [Act.put, List.setIfInBounds_toArray, List.set_cons_zero, List.set_cons_succ]
                    refine wpAnyH_takeD (i := 24) (v := undef) rfl (by kernel_rfl) (by kernel_rfl) (by kernel_rfl) (fun _ _ _ h => h) (Or.inr ⟨by kernel_rfl, rfl⟩) hS ?_
                    try simp only [Act.put, List.setIfInBounds_toArray, List.set_cons_zero, List.set_cons_succ]
                    refine wpAnyH_takeD (i := 25) (v := undef) rfl (by kernel_rfl) (by kernel_rfl) (by kernel_rfl) (fun _ _ _ h => h) (Or.inr ⟨by kernel_rfl, rfl⟩) hS ?_
                    try simp only [Act.put, List.setIfInBounds_toArray, List.set_cons_zero, List.set_cons_succ]
                    refine wpAnyH_takeD (i := 26) (v := ?_) rfl (by kernel_rfl) (by kernel_rfl) (by kernel_rfl) (fun _ _ _ h => h) (Or.inl ⟨by kernel_rfl, ?_⟩) hS ?_
                    rotate_left 1
                    · (intro w' hSw; (try dsimp only at hSw); go_simp; try (with_reducible rfl))
                    try simp only [Act.put, List.setIfInBounds_toArray, List.set_cons_zero, List.set_cons_succ]
                    refine wpAnyH_done (by kernel_rfl) ?_ _
                    go_wp2_with fail
                    go_roundw
                    case rel => exact ⟨i + 1, b, by omega, by go_num, rfl, by show _ = _; rw [HSN.out, HFT.out, Bool.or_false]; exact HQ.out, hb6r.trans (hbd.mono hb6r.size)⟩
                    case measure => simp [intOf]; omega
                · have hfit : fitB S x.1 x.2.1 (fun x => (R.getD x []).getD (n1) false) (onL x.2.2.1) = false := by
                    unfold fitB; rw [decide_eq_false hA]; simp
                  have HFT := Lib.hid hfit
                  obtain ⟨zz, hzz⟩ : ∃ zz, S &&& x.1 = zz := ⟨_, rfl⟩
                  rw [hzz] at hand1 hA
                  have hne : (zz == x.1) = false := by simpa using hA
                  have hneI : (((zz : Nat) : Int) == (x.1 : Int)) = false := by simp; omega
                  clear hfit hA hzz
                  go_wp2_with fail
                  refine wp_region_held_drew (S := fun w' => w'.cell? ⟨bs, os + k, none⟩ = some (.int .u64 (S : Int)) ∧ w'.cell? ⟨bx, 0, none⟩ = some (.int .u64 (x.1 : Int)) ∧ w'.cell? ⟨bx, 1, none⟩ = some (.int .u64 (x.2.1 : Int)) ∧ w'.cell? ⟨bx, 2, none⟩ = some (.slice E1 (onL x.2.2.1).length e1)) (by kernel_rfl) ⟨s0, b0, b1, b2⟩ (fun hS => ?_)
                  refine wpAnyH_takeD (i := 0) (v := ?_) rfl (by kernel_rfl) (by kernel_rfl) (by kernel_rfl) (fun _ _ _ h => h) (Or.inl ⟨by kernel_rfl, ?_⟩) hS ?_
                  rotate_left 1
                  · (intro w' hSw; (try dsimp only at hSw); go_simp; try (with_reducible rfl))
                  try simp only [Act.put, List.setIfInBounds_toArray, List.set_cons_zero, List.set_cons_succ]
                  refine wpAnyH_takeD (i := 1) (v := ?_) rfl (by kernel_rfl) (by kernel_rfl) (by kernel_rfl) (fun _ _ _ h => h) (Or.inl ⟨by kernel_rfl, ?_⟩) hS ?_
                  rotate_left 1
                  · (intro w' hSw; (try dsimp only at hSw); go_simp; try (with_reducible rfl))
                  try simp only [Act.put, List.setIfInBounds_toArray, List.set_cons_zero, List.set_cons_succ]
                  refine wpAnyH_takeD (i := 2) (v := ?_) rfl (by kernel_rfl) (by kernel_rfl) (by kernel_rfl) (fun _ _ _ h => h) (Or.inl ⟨by kernel_rfl, ?_⟩) hS ?_
                  rotate_left 1
                  · (intro w' hSw; (try dsimp only at hSw); go_simp; try (with_reducible rfl))
                  try simp only [Act.put, List.setIfInBounds_toArray, List.set_cons_zero, List.set_cons_succ]
                  refine wpAnyH_takeD (i := 3) (v := ?_) rfl (by kernel_rfl) (by kernel_rfl) (by kernel_rfl) (fun _ _ _ h => h) (Or.inl ⟨by kernel_rfl, ?_⟩) hS ?_
                  rotate_left 1
                  · (intro w' hSw; (try dsimp only at hSw); go_simp; try (with_reducible rfl))
                  try simp only [Act.put, List.setIfInBounds_toArray, List.set_cons_zero, List.set_cons_succ]
                  refine wpAnyH_takeD (i := 4) (v := ?_) rfl (by kernel_rfl) (by kernel_rfl) (by kernel_rfl) (fun _ _ _ h => h) (Or.inl ⟨by kernel_rfl, ?_⟩) hS ?_
                  rotate_left 1
                  · (intro w' hSw; (try dsimp only at hSw); go_simp; try (with_reducible rfl))
                  try simp only [Act.put, List.setIfInBounds_toArray, List.set_cons_zero, List.set_cons_succ]
                  refine wpAnyH_takeD (i := 5) (v := ?_) rfl (by kernel_rfl) (by kernel_rfl) (by kernel_rfl) (fun _ _ _ h => h) (Or.inl ⟨by kernel_rfl, ?_⟩) hS ?_
                  rotate_left 1
                  · (intro w' hSw; (try dsimp only at hSw); go_simp; try (with_reducible rfl))
                  try simp only [Act.put, List.setIfInBounds_toArray, List.set_cons_zero, List.set_cons_succ]
                  refine wpAnyH_takeD (i := 6) (v := ?_) rfl (by kernel_rfl) (by kernel_rfl) (by kernel_rfl) (fun _ _ _ h => h) (Or.inl ⟨by kernel_rfl, ?_⟩) hS ?_
                  rotate_left 1
                  · (intro w' hSw; (try dsimp only at hSw); go_simp; try (with_reducible rfl))
                  try simp only [Act.put, List.setIfInBounds_toArray, List.set_cons_zero, List.set_cons_succ]
                  refine wpAnyH_takeD (i := 7) (v := ?_) rfl (by kernel_rfl) (by kernel_rfl) (by kernel_rfl) (fun _ _ _ h => h) (Or.inl ⟨by kernel_rfl, ?_⟩) hS ?_
                  rotate_left 1
                  · (intro w' hSw; (try dsimp only at hSw); go_simp; try (with_reducible rfl))
                  try simp only [Act.put, List.setIfInBounds_toArray, List.set_cons_zero, List.set_cons_succ]
                  refine wpAnyH_takeD (i := 8) (v := ?_) rfl (by kernel_rfl) (by kernel_rfl) (by kernel_rfl) (fun _ _ _ h => h) (Or.inl ⟨by kernel_rfl, ?_⟩) hS ?_
                  rotate_left 1
                  · (intro w' hSw; (try dsimp only at hSw); go_simp; try (with_reducible rfl))
                  try simp only [Act.put, List.setIfInBounds_toArray, List.set_cons_zero, List.set_cons_succ]
                  refine wpAnyH_takeD (i := 9) (v := ?_) rfl (by kernel_rfl) (by kernel_rfl) (by kernel_rfl) (fun _ _ _ h => h) (Or.inl ⟨by kernel_rfl, ?_⟩) hS ?_
                  rotate_left 1
                  · (intro w' hSw; (try dsimp only at hSw); go_simp; try (with_reducible rfl))
                  try simp only [Act.put, List.setIfInBounds_toArray, List.set_cons_zero, List.set_cons_succ]
                  refine wpAnyH_takeD (i := 10) (v := ?_) rfl (by kernel_rfl) (by kernel_rfl) (by kernel_rfl) (fun _ _ _ h => h) (Or.inl ⟨by kernel_rfl, ?_⟩) hS ?_
                  rotate_left 1
                  · (intro w' hSw; (try dsimp only at hSw); go_simp; try (with_reducible rfl))
                  try simp only [Act.put, List.setIfInBounds_toArray, List.set_cons_zero, List.set_cons_succ]
                  refine wpAnyH_takeD (i := 11) (v := undef) rfl (by kernel_rfl) (by kernel_rfl) (by kernel_rfl) (fun _ _ _ h => h) (Or.inr ⟨by kernel_rfl, rfl⟩) hS ?_
                  try simp only [Act.put, List.setIfInBounds_toArray, List.set_cons_zero, List.set_cons_succ]
                  refine wpAnyH_takeD (i := 12) (v := undef) rfl (by kernel_rfl) (by kernel_rfl) (by kernel_rfl) (fun _ _ _ h => h) (Or.inr ⟨by kernel_rfl, rfl⟩) hS ?_
                  try simp only [Act.put, List.setIfInBounds_toArray, List.set_cons_zero, List.set_cons_succ]
                  refine wpAnyH_takeD (i := 13) (v := undef) rfl (by kernel_rfl) (by kernel_rfl) (by kernel_rfl) (fun _ _ _ h => h) (Or.inr ⟨by kernel_rfl, rfl⟩) hS ?_
                  try simp only [Act.put, List.setIfInBounds_toArray, List.set_cons_zero, List.set_cons_succ]
                  refine wpAnyH_takeD (i := 14) (v := undef) rfl (by kernel_rfl) (by kernel_rfl) (by kernel_rfl) (fun _ _ _ h => h) (Or.inr ⟨by kernel_rfl, rfl⟩) hS ?_
                  try simp only [Act.put, List.setIfInBounds_toArray, List.set_cons_zero, List.set_cons_succ]
                  refine wpAnyH_takeD (i := 15) (v := undef) rfl (by kernel_rfl) (by kernel_rfl) (by kernel_rfl) (fun _ _ _ h => h) (Or.inr ⟨by kernel_rfl, rfl⟩) hS ?_
                  try simp only [Act.put, List.setIfInBounds_toArray, List.set_cons_zero, List.set_cons_succ]
                  refine wpAnyH_takeD (i := 16) (v := undef) rfl (by kernel_rfl) (by kernel_rfl) (by kernel_rfl) (fun _ _ _ h => h) (Or.inr ⟨by kernel_rfl, rfl⟩) hS ?_
                  try simp only [Act.put, List.setIfInBounds_toArray, List.set_cons_zero, List.set_cons_succ]
                  refine wpAnyH_takeD (i := 17) (v := undef) rfl (by kernel_rfl) (by kernel_rfl) (by kernel_rfl) (fun _ _ _ h => h) (Or.inr ⟨by kernel_rfl, rfl⟩) hS ?_
                  try simp only [Act.put, List.setIfInBounds_toArray, List.set_cons_zero, List.set_cons_succ]
                  refine wpAnyH_takeD (i := 18) (v := undef) rfl (by kernel_rfl) (by kernel_rfl) (by kernel_rfl) (fun _ _ _ h => h) (Or.inr ⟨by kernel_rfl, rfl⟩) hS ?_
                  try simp only [Act.put, List.setIfInBounds_toArray, List.set_cons_zero, List.set_cons_succ]
                  refine wpAnyH_takeD (i := 19) (v := ?_) rfl (by kernel_rfl) (by kernel_rfl) (by kernel_rfl) (fun _ _ _ h => h) (Or.inl ⟨by kernel_rfl, ?_⟩) hS ?_
                  rotate_left 1
                  · (intro w' hSw; (try dsimp only at hSw); go_simp; try (with_reducible rfl))
                  try simp only [Act.put, List.setIfInBounds_toArray, List.set_cons_zero, List.set_cons_succ]
                  refine wpAnyH_takeD (i := 20) (v := ?_) rfl (by kernel_rfl) (by kernel_rfl) (by kernel_rfl) (fun _ _ _ h => h) (Or.inl ⟨by kernel_rfl, ?_⟩) hS ?_
                  rotate_left 1
                  · (intro w' hSw; (try dsimp only at hSw); go_simp; try (with_reducible rfl))
                  try simp only [Act.put, List.setIfInBounds_toArray, List.set_cons_zero, List.set_cons_succ]
                  refine wpAnyH_takeD (i := 21) (v := undef) rfl (by kernel_rfl) (by kernel_rfl) (by kernel_rfl) (fun _ _ _ h => h) (Or.inr ⟨by kernel_rfl, rfl⟩) hS ?_
                  try simp only [Act.put, List.setIfInBounds_toArray, List.set_cons_zero, List.set_cons_succ]
                  refine wpAnyH_takeD (i := 22) (v := undef) rfl (by kernel_rfl) (by kernel_rfl) (by kernel_rfl) (fun _ _ _ h => h) (Or.inr ⟨by kernel_rfl, rfl⟩) hS ?_
                  try simp only [Act.put, List.setIfInBounds_toArray, List.set_cons_zero, List.set_cons_succ]
                  refine wpAnyH_takeD (i := 23) (v := undef) rfl (by kernel_rfl) (by kernel_rfl) (by kernel_rfl) (fun _ _ _ h => h) (Or.inr ⟨by kernel_rfl, rfl⟩) hS ?_
                  try simp only [Act.put, List.setIfInBounds_toArray, List.set_cons_zero, List.set_cons_succ]
                  refine wpAnyH_takeD (i := 24) (v := undef) rfl (by kernel_rfl) (by kernel_rfl) (by kernel_rfl) (fun _ _ _ h => h) (Or.inr ⟨by kernel_rfl, rfl⟩) hS ?_
                  try simp only [Act.put, List.setIfInBounds_toArray, List.set_cons_zero, List.set_cons_succ]
                  refine wpAnyH_takeD (i := 25) (v := undef) rfl (by kernel_rfl) (by kernel_rfl) (by kernel_rfl) (fun _ _ _ h => h) (Or.inr ⟨by kernel_rfl, rfl⟩) hS ?_
                  try simp only [Act.put, List.setIfInBounds_toArray, List.set_cons_zero, List.set_cons_succ]
                  refine wpAnyH_takeD (i := 26) (v := ?_) rfl (by kernel_rfl) (by kernel_rfl) (by kernel_rfl) (fun _ _ _ h => h) (Or.inl ⟨by kernel_rfl, ?_⟩) hS ?_
                  rotate_left 1
                  · (intro w' hSw; (try dsimp only at hSw); go_simp; try (with_reducible rfl))
                  try simp only [Act.put, List.setIfInBounds_toArray, List.set_cons_zero, List.set_cons_succ]
                  refine wpAnyH_done (by kernel_rfl) ?_ _
                  go_wp2_with fail
                  go_roundw
                  case rel => exact ⟨i + 1, b, by omega, by go_num, rfl, by show _ = _; rw [HSN.out, HFT.out, Bool.or_false]; exact HQ.out, hb6r.trans (hbd.mono hb6r.size)⟩
                  case measure => simp [intOf]; omega
          · have hkl : i = T.length := by omega
            subst hkl
            rw [List.take_of_length_le (Nat.le_refl _), HANY.out] at HQ
            clear hlt
            have hpal := all28_any w1 wr vt R (HG6.out.below hbr) Ap np cp PS w.heap.size (HP.out.below (hb06.trans (hbr.mono hz6)) (Nat.le_refl _)) (Nat.le_trans hz6 hsr) HPL.out.1 k (fun z hz => by rw [HRl.out]; exact HPL.out.2 z hz) (fun r hr => by rw [HRn.out r hr]; exact hkN) (by rw [HRl.out]; omega) (by omega) (by omega)
            rw [← HQ.out] at hpal
            have HPA := Lib.hid hpal
            clear hpal HQ
            go_wp2_with fail
            refine Calls.mono HPA.out ?_
            rintro e wx ⟨rfl, hbx⟩
            go_wp2_with fail
            go_roundw
            case rel => exact ⟨q, by omega, by go_num, hbr.trans (hbx.mono hsr)⟩
            case measure => simp [intOf]; omega
      · have hnx : nx n1 N k = q := by unfold nx; rw [if_pos (by omega)]; exact hq
        rw [hnx] at hany hnow
        have HANY := Lib.hid hany
        have HNOW := Lib.hid hnow
        have HNX : Hid (q < N) := Lib.hid (by omega)
        have dq : (q == N) = false := by simpa using hqN
        have dqi : ((q : Int) == (N : Int)) = false := by simp; omega
        clear hany hnow hnx
        go_wp2_with fail
        clear dq dqi
        go_loopw [13, 67] (fun u v wr => ∃ (i : Nat) (b : Bool), i ≤ T.length ∧ v = .int .i64 i ∧ u = .bool b ∧ Hid (b = (T.take i).any (fun c => fitB S c.1 c.2.1 (fun x => (R.getD x []).getD (q) false) (onL c.2.2.1))) ∧ Below w6.heap.size w6 wr) (fun _ v _ => T.length - (intOf v).toNat)
        case atStart => exact ⟨0, false, by omega, rfl, rfl, rfl, hbr⟩
        case round =>
          obtain ⟨i, b, hi, rfl, rfl, HQ, hbr⟩ := hrel
          have hsr := hbr.size
          by_cases hlt : i < T.length
          · obtain ⟨ba, oa, E1, e1, E2, e2, rfl, hbal, p0, p1, p2, p3, tm1, tm2⟩ := rd_cov (HSL.out.below hbr (Nat.le_refl _)).rd (HCL.out.keep (Tch.of_below hbr) (spares_new _ _)) (List.getElem?_eq_getElem hlt)
            have hsn := any_snoc T (fun c => fitB S c.1 c.2.1 (fun x => (R.getD x []).getD (q) false) (onL c.2.2.1)) i hlt
            have hmem : T[i] ∈ T := List.getElem_mem hlt
            have hcn := HCF.out T[i] hmem
            have hsm := HSM.out T[i] hmem
            have hnw := HNOW.out T[i] hmem
            generalize T[i] = x at *
            have hle1 : (onL x.2.2.1).length ≤ 1000 := Nat.le_trans (onL_len _) (by rw [hcn.1]; omega)
            have hle2 : (onL x.2.2.2).length ≤ 1000 := Nat.le_trans (onL_len _) (by rw [hcn.2]; omega)
            have hlt1 : ∀ z ∈ onL x.2.2.1, z < f.length := fun z hz => by
              unfold onL at hz
              have := List.mem_range.1 (List.mem_filter.1 hz).1
              rw [hcn.1] at this; exact this
            have hlt2 : ∀ z ∈ onL x.2.2.2, z < f.length := fun z hz => by
              unfold onL at hz
              have := List.mem_range.1 (List.mem_filter.1 hz).1
              rw [hcn.2] at this; exact this
            obtain ⟨LL, hLL⟩ : ∃ LL, onL x.2.2.1 ++ onL x.2.2.2 = LL := ⟨_, rfl⟩
            have hLz : ∀ z ∈ LL, z < f.length := fun z hz => by
              rw [← hLL] at hz
              rcases List.mem_append.1 hz with h | h
              · exact hlt1 z h
              · exact hlt2 z h
            have hLc : LL.length ≤ 2000 := by rw [← hLL, List.length_append]; omega
            have HLL := Lib.hid hLL
            have HLz := Lib.hid hLz
            have HL1 := Lib.hid hlt1
            have HL2 := Lib.hid hlt2
            have HSN := Lib.hid hsn
            have HNW := Lib.hid hnw
            have wi : IntKind.i64.wrap ((i : Int) + 1) = i + 1 := by rw [IntKind.wrap_i64]; omega
            have hb7 : Below wr.heap.size wr (wr.alloc (.cells #[.int .u64 (x.1 : Int), .int .u64 (x.2.1 : Int), .slice E1 (onL x.2.2.1).length e1, .slice E2 (onL x.2.2.2).length e2] 48)) := (Below.refl _ _).alloc (Nat.le_refl _) _
            have hx7 := heap_alloc_new wr (.cells #[.int .u64 (x.1 : Int), .int .u64 (x.2.1 : Int), .slice E1 (onL x.2.2.1).length e1, .slice E2 (onL x.2.2.2).length e2] 48)
            have hz7 : (wr.alloc (.cells #[.int .u64 (x.1 : Int), .int .u64 (x.2.1 : Int), .slice E1 (onL x.2.2.1).length e1, .slice E2 (onL x.2.2.2).length e2] 48)).heap.size = wr.heap.size + 1 := by simp
            obtain ⟨W7, hW7⟩ : ∃ W7, wr.alloc (.cells #[.int .u64 (x.1 : Int), .int .u64 (x.2.1 : Int), .slice E1 (onL x.2.2.1).length e1, .slice E2 (onL x.2.2.2).length e2] 48) = W7 := ⟨_, rfl⟩
            rw [hW7] at hb7 hx7 hz7
            have HW7 := Lib.hid hW7
            have HT1 := Lib.hid ((tm1.below hb7).sl)
            have HT2 := Lib.hid ((tm2.below hb7).sl)
            have hk1 := tm1.sl.cap
            have hk2 := tm2.sl.cap
            have HB67 := Lib.hid (hbr.trans (hb7.mono hsr))
            obtain ⟨bx, hbx⟩ : ∃ bx, wr.heap.size = bx := ⟨_, rfl⟩
            rw [hbx] at hx7 hz7
            have h6x : w6.heap.size ≤ bx := by omega
            have hbxl : bx < W7.heap.size := by omega
            clear hW7 hLL hLz hlt1 hlt2 hsn hnw tm1 tm2 hcn hb7 hmem hbr
            go_wp2_with fail
            try rw [HW7.out]
            clear hbx HW7 p0 p1 p2 p3 hbal
            obtain ⟨q0, q1, q2, q3⟩ := cell4 hx7
            refine wp_region_held_drew (S := fun w' => w'.cell? ⟨bx, 2, none⟩ = some (.slice E1 (onL x.2.2.1).length e1) ∧ w'.cell? ⟨bx, 3, none⟩ = some (.slice E2 (onL x.2.2.2).length e2)) (by kernel_rfl) ⟨q2, q3⟩ (fun hS => ?_)
            refine wpAnyH_takeD (i := 1) (v := ?_) rfl (by kernel_rfl) (by kernel_rfl) (by kernel_rfl) (fun _ _ _ h => h) (Or.inl ⟨by kernel_rfl, ?_⟩) hS ?_
            rotate_left 1
            · (intro w' hSw; (try dsimp only at hSw); go_simp; try (with_reducible rfl))
            try simp only [Act.put, List.setIfInBounds_toArray, List.set_cons_zero, List.set_cons_succ]
            refine wpAnyH_takeD (i := 2) (v := ?_) rfl (by kernel_rfl) (by kernel_rfl) (by kernel_rfl) (fun _ _ _ h => h) (Or.inl ⟨by kernel_rfl, ?_⟩) hS ?_
            rotate_left 1
            · (intro w' hSw; (try dsimp only at hSw); go_simp; try (with_reducible rfl))
            try simp only [Act.put, List.setIfInBounds_toArray, List.set_cons_zero, List.set_cons_succ]
            refine wpAnyH_takeD (i := 4) (v := ?_) rfl (by kernel_rfl) (by kernel_rfl) (by kernel_rfl) (fun _ _ _ h => h) (Or.inl ⟨by kernel_rfl, ?_⟩) hS ?_
            rotate_left 1
            · (intro w' hSw; (try dsimp only at hSw); go_simp; try (with_reducible rfl))
            try simp only [Act.put, List.setIfInBounds_toArray, List.set_cons_zero, List.set_cons_succ]
            refine wpAnyH_takeD (i := 5) (v := ?_) rfl (by kernel_rfl) (by kernel_rfl) (by kernel_rfl) (fun _ _ _ h => h) (Or.inl ⟨by kernel_rfl, ?_⟩) hS ?_
            rotate_left 1
            · (intro w' hSw; (try dsimp only at hSw); go_simp; try (with_reducible rfl))
            try simp only [Act.put, List.setIfInBounds_toArray, List.set_cons_zero, List.set_cons_succ]
            refine wpAnyH_takeD (i := 8) (v := ?_) rfl (by kernel_rfl) (by kernel_rfl) (by kernel_rfl) (fun _ _ _ h => h) (Or.inl ⟨by kernel_rfl, ?_⟩) hS ?_
            rotate_left 1
            · (intro w' hSw; (try dsimp only at hSw); go_simp; try (with_reducible rfl))
            try simp only [Act.put, List.setIfInBounds_toArray, List.set_cons_zero, List.set_cons_succ]
            refine wpAnyH_oneD (i := 0) rfl (by kernel_rfl) (fun K hK => ?_)
            refine step_empty rfl 28 rfl 3 1 8 sliceInt ?_
            intro we ve hve hOe hbe hse
            have hbe0 : Below W7.heap.size W7 we := (Below.drew (Below.refl _ _)).trans hbe
            have hOe' : we.ownsRow W7.heap.size 3 1 ve 0 [] := hOe
            have hve2 : ve = .slice (some ⟨W7.heap.size, 0, none⟩) 0 0 := hve
            clear hve hOe hbe hse
            subst hve2
            refine hK.out _ _ ⟨(hbe0.cell (p := ⟨bx, 2, none⟩) hbxl).trans q2, (hbe0.cell (p := ⟨bx, 3, none⟩) hbxl).trans q3⟩ (fun hS => ?_)
            clear hK
            try simp only [Act.put, List.setIfInBounds_toArray, List.set_cons_zero, List.set_cons_succ]
            refine wpAnyH_oneD (i := 3) rfl (by kernel_rfl) (fun K hK => ?_)
            refine step_extend rfl (.tmp 71) (.tmp 73) 28 rfl W7.heap.size 3 1 8 sliceInt _ 0 [] hOe' (by rfl) W7.heap.size E1 (onL x.2.2.1).length e1 (icells (natI (onL x.2.2.1))) (by rfl) (HT1.out.below hbe0 (Nat.le_refl _)) (icells_one' _) (by omega) (by omega) hbe0.size ?_
            intro v1 wa hOa hta _ _
            have hba : Below W7.heap.size W7 wa := hbe0.trans (hta.below hbe0.size (fun k hk e => by have := (hOe'.lt k e).1; omega))
            refine hK.out _ _ ⟨(hba.cell (p := ⟨bx, 2, none⟩) hbxl).trans q2, (hba.cell (p := ⟨bx, 3, none⟩) hbxl).trans q3⟩ (fun hS => ?_)
            clear hK
            try simp only [Act.put, List.setIfInBounds_toArray, List.set_cons_zero, List.set_cons_succ]
            refine wpAnyH_oneD (i := 6) rfl (by kernel_rfl) (fun K hK => ?_)
            refine step_extend rfl (.tmp 74) (.tmp 76) 28 rfl W7.heap.size 3 1 8 sliceInt v1 (0 + (onL x.2.2.1).length) ([] ++ icells (natI (onL x.2.2.1))) hOa (by rfl) W7.heap.size E2 (onL x.2.2.2).length e2 (icells (natI (onL x.2.2.2))) (by rfl) (HT2.out.below hba (Nat.le_refl _)) (icells_one' _) (by omega) (by omega) hba.size ?_
            intro v2 w8 hO3 ht3 _ _
            have hb8 : Below W7.heap.size W7 w8 := hba.trans (ht3.below hba.size (fun k hk e => by have := (hOa.lt k e).1; omega))
            rw [List.nil_append, show icells (natI (onL x.2.2.1)) ++ icells (natI (onL x.2.2.2)) = icells (natI LL) by rw [← HLL.out]; simp [icells, natI], show 0 + (onL x.2.2.1).length + (onL x.2.2.2).length = LL.length by rw [← HLL.out, List.length_append, Nat.zero_add]] at hO3
            obtain ⟨AL, cL, hv2, hsl⟩ := own_sl hO3
            subst hv2
            refine hK.out _ _ ⟨(hb8.cell (p := ⟨bx, 2, none⟩) hbxl).trans q2, (hb8.cell (p := ⟨bx, 3, none⟩) hbxl).trans q3⟩ (fun hS => ?_)
            clear hK
            try simp only [Act.put, List.setIfInBounds_toArray, List.set_cons_zero, List.set_cons_succ]
            refine wpAnyH_takeD (i := 7) (v := ?_) rfl (by kernel_rfl) (by kernel_rfl) (by kernel_rfl) (fun _ _ _ h => h) (Or.inl ⟨by kernel_rfl, ?_⟩) hS ?_
            rotate_left 1
            · (intro w' hSw; (try dsimp only at hSw); go_simp; try (with_reducible rfl))
            try simp only [Act.put, List.setIfInBounds_toArray, List.set_cons_zero, List.set_cons_succ]
            refine wpAnyH_done (by kernel_rfl) ?_ _
            clear hOa hta ht3 hO3 hOe' hbe0 hba
            have HLS := Lib.hid hsl
            have hcL := hsl.cap
            replace q0 := (hb8.cell (p := ⟨bx, 0, none⟩) hbxl).trans q0
            replace q1 := (hb8.cell (p := ⟨bx, 1, none⟩) hbxl).trans q1
            replace q2 := (hb8.cell (p := ⟨bx, 2, none⟩) hbxl).trans q2
            replace q3 := (hb8.cell (p := ⟨bx, 3, none⟩) hbxl).trans q3
            replace hbxl : bx < w8.heap.size := Nat.lt_of_lt_of_le hbxl hb8.size
            have HB68 := Lib.hid (HB67.out.trans (hb8.mono HB67.out.size))
            have HT81 := Lib.hid (HT1.out.below hb8 (Nat.le_refl _) |>.up hb8.size)
            have HT82 := Lib.hid (HT2.out.below hb8 (Nat.le_refl _) |>.up hb8.size)
            have HQ8 := Lib.hid (And.intro q0 (And.intro q1 (And.intro q2 q3)))
            clear hsl hb8 hx7 hz7 HT1 HT2 HB67 q0 q1 q2 q3
            go_wp2_with fail
            go_loopw [79] (fun v wr => ∃ j : Nat, j ≤ LL.length ∧ v = .int .i64 j ∧ Below w8.heap.size w8 wr) (fun v _ => LL.length - (intOf v).toNat)
            case atStart => exact ⟨0, by omega, rfl, Below.refl _ _⟩
            case round =>
              obtain ⟨j, hj, rfl, hbj⟩ := hrel
              have hsj := hbj.size
              by_cases hjl : j < LL.length
              · obtain ⟨bb, o, rfl, hbb, hc0⟩ := HLS.out.rd.at_ (icells_at' (l := natI LL) (k := j) (by simp [natI]; exact hjl))
                rw [show (natI LL)[j]'(by simp [natI]; exact hjl) = ((LL[j] : Nat) : Int) by simp [natI]] at hc0
                have hcj := (hbj.cell (p := ⟨bb, o + j, none⟩) hbb).trans hc0
                have hzl := HLz.out LL[j] (List.getElem_mem hjl)
                generalize LL[j] = z at *
                have dz : decide (f.length ≤ z) = false := by simp; omega
                have wj : IntKind.i64.wrap ((j : Int) + 1) = j + 1 := by rw [IntKind.wrap_i64]; omega
                clear hc0 hzl
                go_wp2_with fail
                go_roundw
                case rel => exact ⟨j + 1, by omega, by go_num, hbj⟩
                case measure => simp [intOf]; omega
              · have hkl : j = LL.length := by omega
                subst hkl
                clear hjl
                obtain ⟨q0, q1, q2, q3⟩ := HQ8.out
                have b0 := (hbj.cell (p := ⟨bx, 0, none⟩) hbxl).trans q0
                have b1 := (hbj.cell (p := ⟨bx, 1, none⟩) hbxl).trans q1
                have b2 := (hbj.cell (p := ⟨bx, 2, none⟩) hbxl).trans q2
                have b3 := (hbj.cell (p := ⟨bx, 3, none⟩) hbxl).trans q3
                have hb6r := HB68.out.trans (hbj.mono HB68.out.size)
                have s0 := (hb6r.cell (p := ⟨bs, os + k, none⟩) hbs6).trans HSC.out
                have hbsl : bs < wr.heap.size := Nat.lt_of_lt_of_le hbs6 hb6r.size
                have hbxr : bx < wr.heap.size := Nat.lt_of_lt_of_le hbxl hsj
                have hbd : Below wr.heap.size wr wr.drew := Below.drew (Below.refl _ _)
                have hand1 := and_u64' (x := S) (y := x.1) hS64 (by omega)
                have hand2 := and_u64' (x := S) (y := x.2.1) hS64 (by omega)
                have hT1r := (HT81.out.below hbj (Nat.le_refl _)).up hsj
                have hT2r := (HT82.out.below hbj (Nat.le_refl _)).up hsj
                clear q0 q1 q2 q3
                by_cases hA : S &&& x.1 = x.1
                · by_cases hBn : S &&& x.2.1 = 0
                  · rw [hA] at hand1
                    rw [hBn] at hand2
                    obtain ⟨wd, hwd⟩ : ∃ wd, wr.drew = wd := ⟨_, rfl⟩
                    rw [hwd] at hbd
                    have HWD := Lib.hid hwd
                    have hb6d := hb6r.trans (hbd.mono hb6r.size)
                    have hall := all28_any w1 wd vt R (HG6.out.below hb6d) E1 (onL x.2.2.1).length e1 (onL x.2.2.1) wr.heap.size (hT1r.below hbd (Nat.le_refl _)) hbd.size rfl (q) (fun z hz => by rw [HRl.out]; exact HL1.out z hz) (fun r hr => by rw [HRn.out r hr]; exact HNX.out) (by rw [HRl.out]; omega) (by omega) (by have := HNX.out; omega)
                    have hfit : fitB S x.1 x.2.1 (fun x => (R.getD x []).getD (q) false) (onL x.2.2.1) = (onL x.2.2.1).all (fun x => (R.getD x []).getD (q) false) := by
                      unfold fitB; rw [decide_eq_true hA, decide_eq_true hBn]; rfl
                    rw [← hfit] at hall
                    have HNow := Lib.hid (fun (w' : World) (hb : Below wr.heap.size wr w') (h : (onL x.2.2.2).all (fun x => (R.getD x []).getD k false) = true) => h ▸ all28_any w1 w' vt R (HG6.out.below (hb6r.trans (hb.mono hb6r.size))) E2 (onL x.2.2.2).length e2 (onL x.2.2.2) wr.heap.size (hT2r.below hb (Nat.le_refl _)) hb.size rfl k (fun z hz => by rw [HRl.out]; exact HL2.out z hz) (fun r hr => by rw [HRn.out r hr]; exact hkN) (by rw [HRl.out]; omega) (by omega) (by omega))
                    have hnw := HNW.out
                    cases hft : fitB S x.1 x.2.1 (fun x => (R.getD x []).getD (q) false) (onL x.2.2.1)
                    · rw [hft] at hall
                      have HALL := Lib.hid hall
                      have HFT := Lib.hid hft
                      clear hall hfit hft hwd hA hBn hnw HNow
                      go_wp2_with fail
                      refine wp_region_held_drew (S := fun w' => w'.cell? ⟨bs, os + k, none⟩ = some (.int .u64 (S : Int)) ∧ w'.cell? ⟨bx, 0, none⟩ = some (.int .u64 (x.1 : Int)) ∧ w'.cell? ⟨bx, 1, none⟩ = some (.int .u64 (x.2.1 : Int)) ∧ w'.cell? ⟨bx, 2, none⟩ = some (.slice E1 (onL x.2.2.1).length e1)) (by kernel_rfl) ⟨s0, b0, b1, b2⟩ (fun hS => ?_)
                      refine wpAnyH_takeD (i := 0) (v := ?_) rfl (by kernel_rfl) (by kernel_rfl) (by kernel_rfl) (fun _ _ _ h => h) (Or.inl ⟨by kernel_rfl, ?_⟩) hS ?_
                      rotate_left 1
                      · (intro w' hSw; (try dsimp only at hSw); go_simp; try (with_reducible rfl))
                      try simp only [Act.put, List.setIfInBounds_toArray, List.set_cons_zero, List.set_cons_succ]
                      refine wpAnyH_takeD (i := 1) (v := ?_) rfl (by kernel_rfl) (by kernel_rfl) (by kernel_rfl) (fun _ _ _ h => h) (Or.inl ⟨by kernel_rfl, ?_⟩) hS ?_
                      rotate_left 1
                      · (intro w' hSw; (try dsimp only at hSw); go_simp; try (with_reducible rfl))
                      try simp only [Act.put, List.setIfInBounds_toArray, List.set_cons_zero, List.set_cons_succ]
                      refine wpAnyH_takeD (i := 2) (v := ?_) rfl (by kernel_rfl) (by kernel_rfl) (by kernel_rfl) (fun _ _ _ h => h) (Or.inl ⟨by kernel_rfl, ?_⟩) hS ?_
                      rotate_left 1
                      · (intro w' hSw; (try dsimp only at hSw); go_simp; try (with_reducible rfl))
                      try simp only [Act.put, List.setIfInBounds_toArray, List.set_cons_zero, List.set_cons_succ]
                      refine wpAnyH_takeD (i := 3) (v := ?_) rfl (by kernel_rfl) (by kernel_rfl) (by kernel_rfl) (fun _ _ _ h => h) (Or.inl ⟨by kernel_rfl, ?_⟩) hS ?_
                      rotate_left 1
                      · (intro w' hSw; (try dsimp only at hSw); go_simp; try (with_reducible rfl))
                      try simp only [Act.put, List.setIfInBounds_toArray, List.set_cons_zero, List.set_cons_succ]
                      refine wpAnyH_takeD (i := 4) (v := ?_) rfl (by kernel_rfl) (by kernel_rfl) (by kernel_rfl) (fun _ _ _ h => h) (Or.inl ⟨by kernel_rfl, ?_⟩) hS ?_
                      rotate_left 1
                      · (intro w' hSw; (try dsimp only at hSw); go_simp; try (with_reducible rfl))
                      try simp only [Act.put, List.setIfInBounds_toArray, List.set_cons_zero, List.set_cons_succ]
                      refine wpAnyH_takeD (i := 5) (v := ?_) rfl (by kernel_rfl) (by kernel_rfl) (by kernel_rfl) (fun _ _ _ h => h) (Or.inl ⟨by kernel_rfl, ?_⟩) hS ?_
                      rotate_left 1
                      · (intro w' hSw; (try dsimp only at hSw); go_simp; try (with_reducible rfl))
                      try simp only [Act.put, List.setIfInBounds_toArray, List.set_cons_zero, List.set_cons_succ]
                      refine wpAnyH_takeD (i := 6) (v := ?_) rfl (by kernel_rfl) (by kernel_rfl) (by kernel_rfl) (fun _ _ _ h => h) (Or.inl ⟨by kernel_rfl, ?_⟩) hS ?_
                      rotate_left 1
                      · (intro w' hSw; (try dsimp only at hSw); go_simp; try (with_reducible rfl))
                      try simp only [Act.put, List.setIfInBounds_toArray, List.set_cons_zero, List.set_cons_succ]
                      refine wpAnyH_takeD (i := 7) (v := ?_) rfl (by kernel_rfl) (by kernel_rfl) (by kernel_rfl) (fun _ _ _ h => h) (Or.inl ⟨by kernel_rfl, ?_⟩) hS ?_
                      rotate_left 1
                      · (intro w' hSw; (try dsimp only at hSw); go_simp; try (with_reducible rfl))
                      try simp only [Act.put, List.setIfInBounds_toArray, List.set_cons_zero, List.set_cons_succ]
                      refine wpAnyH_takeD (i := 8) (v := ?_) rfl (by kernel_rfl) (by kernel_rfl) (by kernel_rfl) (fun _ _ _ h => h) (Or.inl ⟨by kernel_rfl, ?_⟩) hS ?_
                      rotate_left 1
                      · (intro w' hSw; (try dsimp only at hSw); go_simp; try (with_reducible rfl))
                      try simp only [Act.put, List.setIfInBounds_toArray, List.set_cons_zero, List.set_cons_succ]
                      refine wpAnyH_takeD (i := 9) (v := ?_) rfl (by kernel_rfl) (by kernel_rfl) (by kernel_rfl) (fun _ _ _ h => h) (Or.inl ⟨by kernel_rfl, ?_⟩) hS ?_
                      rotate_left 1
                      · (intro w' hSw; (try dsimp only at hSw); go_simp; try (with_reducible rfl))
                      try simp only [Act.put, List.setIfInBounds_toArray, List.set_cons_zero, List.set_cons_succ]
                      refine wpAnyH_takeD (i := 10) (v := ?_) rfl (by kernel_rfl) (by kernel_rfl) (by kernel_rfl) (fun _ _ _ h => h) (Or.inl ⟨by kernel_rfl, ?_⟩) hS ?_
                      rotate_left 1
                      · (intro w' hSw; (try dsimp only at hSw); go_simp; try (with_reducible rfl))
                      try simp only [Act.put, List.setIfInBounds_toArray, List.set_cons_zero, List.set_cons_succ]
                      refine wpAnyH_takeD (i := 11) (v := ?_) rfl (by kernel_rfl) (by kernel_rfl) (by kernel_rfl) (fun _ _ _ h => h) (Or.inl ⟨by kernel_rfl, ?_⟩) hS ?_
                      rotate_left 1
                      · (intro w' hSw; (try dsimp only at hSw); go_simp; try (with_reducible rfl))
                      try simp only [Act.put, List.setIfInBounds_toArray, List.set_cons_zero, List.set_cons_succ]
                      refine wpAnyH_takeD (i := 12) (v := ?_) rfl (by kernel_rfl) (by kernel_rfl) (by kernel_rfl) (fun _ _ _ h => h) (Or.inl ⟨by kernel_rfl, ?_⟩) hS ?_
                      rotate_left 1
                      · (intro w' hSw; (try dsimp only at hSw); go_simp; try (with_reducible rfl))
                      try simp only [Act.put, List.setIfInBounds_toArray, List.set_cons_zero, List.set_cons_succ]
                      refine wpAnyH_takeD (i := 13) (v := ?_) rfl (by kernel_rfl) (by kernel_rfl) (by kernel_rfl) (fun _ _ _ h => h) (Or.inl ⟨by kernel_rfl, ?_⟩) hS ?_
                      rotate_left 1
                      · (intro w' hSw; (try dsimp only at hSw); go_simp; try (with_reducible rfl))
                      try simp only [Act.put, List.setIfInBounds_toArray, List.set_cons_zero, List.set_cons_succ]
                      refine wpAnyH_takeD (i := 14) (v := ?_) rfl (by kernel_rfl) (by kernel_rfl) (by kernel_rfl) (fun _ _ _ h => h) (Or.inl ⟨by kernel_rfl, ?_⟩) hS ?_
                      rotate_left 1
                      · (intro w' hSw; (try dsimp only at hSw); go_simp; try (with_reducible rfl))
                      try simp only [Act.put, List.setIfInBounds_toArray, List.set_cons_zero, List.set_cons_succ]
                      refine wpAnyH_takeD (i := 15) (v := ?_) rfl (by kernel_rfl) (by kernel_rfl) (by kernel_rfl) (fun _ _ _ h => h) (Or.inl ⟨by kernel_rfl, ?_⟩) hS ?_
                      rotate_left 1
                      · (intro w' hSw; (try dsimp only at hSw); go_simp; try (with_reducible rfl))
                      try simp only [Act.put, List.setIfInBounds_toArray, List.set_cons_zero, List.set_cons_succ]
                      refine wpAnyH_takeD (i := 16) (v := ?_) rfl (by kernel_rfl) (by kernel_rfl) (by kernel_rfl) (fun _ _ _ h => h) (Or.inl ⟨by kernel_rfl, ?_⟩) hS ?_
                      rotate_left 1
                      · (intro w' hSw; (try dsimp only at hSw); go_simp; try (with_reducible rfl))
                      try simp only [Act.put, List.setIfInBounds_toArray, List.set_cons_zero, List.set_cons_succ]
                      refine wpAnyH_takeD (i := 17) (v := ?_) rfl (by kernel_rfl) (by kernel_rfl) (by kernel_rfl) (fun _ _ _ h => h) (Or.inl ⟨by kernel_rfl, ?_⟩) hS ?_
                      rotate_left 1
                      · (intro w' hSw; (try dsimp only at hSw); go_simp; try (with_reducible rfl))
                      try simp only [Act.put, List.setIfInBounds_toArray, List.set_cons_zero, List.set_cons_succ]
                      refine wpAnyH_takeD (i := 18) (v := ?_) rfl (by kernel_rfl) (by kernel_rfl) (by kernel_rfl) (fun _ _ _ h => h) (Or.inl ⟨by kernel_rfl, ?_⟩) hS ?_
                      rotate_left 1
                      · (intro w' hSw; (try dsimp only at hSw); go_simp; try (with_reducible rfl))
                      try simp only [Act.put, List.setIfInBounds_toArray, List.set_cons_zero, List.set_cons_succ]
                      refine wpAnyH_takeD (i := 19) (v := ?_) rfl (by kernel_rfl) (by kernel_rfl) (by kernel_rfl) (fun _ _ _ h => h) (Or.inl ⟨by kernel_rfl, ?_⟩) hS ?_
                      rotate_left 1
                      · (intro w' hSw; (try dsimp only at hSw); go_simp; try (with_reducible rfl))
                      try simp only [Act.put, List.setIfInBounds_toArray, List.set_cons_zero, List.set_cons_succ]
                      refine wpAnyH_takeD (i := 20) (v := ?_) rfl (by kernel_rfl) (by kernel_rfl) (by kernel_rfl) (fun _ _ _ h => h) (Or.inl ⟨by kernel_rfl, ?_⟩) hS ?_
                      rotate_left 1
                      · (intro w' hSw; (try dsimp only at hSw); go_simp; try (with_reducible rfl))
                      try simp only [Act.put, List.setIfInBounds_toArray, List.set_cons_zero, List.set_cons_succ]
                      refine wpAnyH_takeD (i := 21) (v := ?_) rfl (by kernel_rfl) (by kernel_rfl) (by kernel_rfl) (fun _ _ _ h => h) (Or.inl ⟨by kernel_rfl, ?_⟩) hS ?_
                      rotate_left 1
                      · (intro w' hSw; (try dsimp only at hSw); go_simp; try (with_reducible rfl))
                      try simp only [Act.put, List.setIfInBounds_toArray, List.set_cons_zero, List.set_cons_succ]
                      refine wpAnyH_takeD (i := 22) (v := ?_) rfl (by kernel_rfl) (by kernel_rfl) (by kernel_rfl) (fun _ _ _ h => h) (Or.inl ⟨by kernel_rfl, ?_⟩) hS ?_
                      rotate_left 1
                      · (intro w' hSw; (try dsimp only at hSw); go_simp; try (with_reducible rfl))
                      try simp only [Act.put, List.setIfInBounds_toArray, List.set_cons_zero, List.set_cons_succ]
                      refine wpAnyH_takeD (i := 23) (v := ?_) rfl (by kernel_rfl) (by kernel_rfl) (by kernel_rfl) (fun _ _ _ h => h) (Or.inl ⟨by kernel_rfl, ?_⟩) hS ?_
                      rotate_left 1
                      · (intro w' hSw; (try dsimp only at hSw); go_simp; try (with_reducible rfl))
                      try simp only [Act.put, List.setIfInBounds_toArray, List.set_cons_zero, List.set_cons_succ]
                      refine wpAnyH_takeD (i := 24) (v := ?_) rfl (by kernel_rfl) (by kernel_rfl) (by kernel_rfl) (fun _ _ _ h => h) (Or.inl ⟨by kernel_rfl, ?_⟩) hS ?_
                      rotate_left 1
                      · (intro w' hSw; (try dsimp only at hSw); go_simp; try (with_reducible rfl))
                      try simp only [Act.put, List.setIfInBounds_toArray, List.set_cons_zero, List.set_cons_succ]
                      refine wpAnyH_oneD (i := 25) rfl (by kernel_rfl) (fun K hK => ?_)
                      rw [if_pos (by kernel_rfl)]
                      go_simp
                      rw [HWD.out]
                      refine Calls.mono HALL.out ?_
                      rintro e w9 ⟨rfl, hb9'⟩
                      have hb9 : Below wr.heap.size wr w9 := hbd.trans (hb9'.mono hbd.size)
                      clear hb9'
                      dsimp only
                      refine hK.out _ _ ⟨(hb9.cell (p := ⟨bs, os + k, none⟩) hbsl).trans s0, (hb9.cell (p := ⟨bx, 0, none⟩) hbxr).trans b0, (hb9.cell (p := ⟨bx, 1, none⟩) hbxr).trans b1, (hb9.cell (p := ⟨bx, 2, none⟩) hbxr).trans b2⟩ (fun hS => ?_)
                      clear hK
                      try simp only [Act.put, List.setIfInBounds_toArray, List.set_cons_zero, List.set_cons_succ]
                      refine wpAnyH_takeD (i := 26) (v := ?_) rfl (by kernel_rfl) (by kernel_rfl) (by kernel_rfl) (fun _ _ _ h => h) (Or.inl ⟨by kernel_rfl, ?_⟩) hS ?_
                      rotate_left 1
                      · (intro w' hSw; (try dsimp only at hSw); go_simp; try (with_reducible rfl))
                      try simp only [Act.put, List.setIfInBounds_toArray, List.set_cons_zero, List.set_cons_succ]
                      refine wpAnyH_done (by kernel_rfl) ?_ _
                      go_wp2_with fail
                      go_roundw
                      case rel => exact ⟨i + 1, b, by omega, by go_num, rfl, by show _ = _; rw [HSN.out, HFT.out, Bool.or_false]; exact HQ.out, hb6r.trans (hb9.mono hb6r.size)⟩
                      case measure => simp [intOf]; omega
                    · rw [hft] at hall
                      have HALL := Lib.hid hall
                      have HFT := Lib.hid hft
                      have HNX2 := Lib.hid (hnw hft)
                      clear hall hfit hft hwd hA hBn hnw
                      go_wp2_with fail
                      refine wp_region_held_drew (S := fun w' => w'.cell? ⟨bs, os + k, none⟩ = some (.int .u64 (S : Int)) ∧ w'.cell? ⟨bx, 0, none⟩ = some (.int .u64 (x.1 : Int)) ∧ w'.cell? ⟨bx, 1, none⟩ = some (.int .u64 (x.2.1 : Int)) ∧ w'.cell? ⟨bx, 2, none⟩ = some (.slice E1 (onL x.2.2.1).length e1)) (by kernel_rfl) ⟨s0, b0, b1, b2⟩ (fun hS => ?_)
                      refine wpAnyH_takeD (i := 0) (v := ?_) rfl (by kernel_rfl) (by kernel_rfl) (by kernel_rfl) (fun _ _ _ h => h) (Or.inl ⟨by kernel_rfl, ?_⟩) hS ?_
                      rotate_left 1
                      · (intro w' hSw; (try dsimp only at hSw); go_simp; try (with_reducible rfl))
                      try simp only [Act.put, List.setIfInBounds_toArray, List.set_cons_zero, List.set_cons_succ]
                      refine wpAnyH_takeD (i := 1) (v := ?_) rfl (by kernel_rfl) (by kernel_rfl) (by kernel_rfl) (fun _ _ _ h => h) (Or.inl ⟨by kernel_rfl, ?_⟩) hS ?_
                      rotate_left 1
                      · (intro w' hSw; (try dsimp only at hSw); go_simp; try (with_reducible rfl))
                      try simp only [Act.put, List.setIfInBounds_toArray, List.set_cons_zero, List.set_cons_succ]
                      refine wpAnyH_takeD (i := 2) (v := ?_) rfl (by kernel_rfl) (by kernel_rfl) (by kernel_rfl) (fun _ _ _ h => h) (Or.inl ⟨by kernel_rfl, ?_⟩) hS ?_
                      rotate_left 1
                      · (intro w' hSw; (try dsimp only at hSw); go_simp; try (with_reducible rfl))
                      try simp only [Act.put, List.setIfInBounds_toArray, List.set_cons_zero, List.set_cons_succ]
                      refine wpAnyH_takeD (i := 3) (v := ?_) rfl (by kernel_rfl) (by kernel_rfl) (by kernel_rfl) (fun _ _ _ h => h) (Or.inl ⟨by kernel_rfl, ?_⟩) hS ?_
                      rotate_left 1
                      · (intro w' hSw; (try dsimp only at hSw); go_simp; try (with_reducible rfl))
                      try simp only [Act.put, List.setIfInBounds_toArray, List.set_cons_zero, List.set_cons_succ]
                      refine wpAnyH_takeD (i := 4) (v := ?_) rfl (by kernel_rfl) (by kernel_rfl) (by kernel_rfl) (fun _ _ _ h => h) (Or.inl ⟨by kernel_rfl, ?_⟩) hS ?_
                      rotate_left 1
                      · (intro w' hSw; (try dsimp only at hSw); go_simp; try (with_reducible rfl))
                      try simp only [Act.put, List.setIfInBounds_toArray, List.set_cons_zero, List.set_cons_succ]
                      refine wpAnyH_takeD (i := 5) (v := ?_) rfl (by kernel_rfl) (by kernel_rfl) (by kernel_rfl) (fun _ _ _ h => h) (Or.inl ⟨by kernel_rfl, ?_⟩) hS ?_
                      rotate_left 1
                      · (intro w' hSw; (try dsimp only at hSw); go_simp; try (with_reducible rfl))
                      try simp only [Act.put, List.setIfInBounds_toArray, List.set_cons_zero, List.set_cons_succ]
                      refine wpAnyH_takeD (i := 6) (v := ?_) rfl (by kernel_rfl) (by kernel_rfl) (by kernel_rfl) (fun _ _ _ h => h) (Or.inl ⟨by kernel_rfl, ?_⟩) hS ?_
                      rotate_left 1
                      · (intro w' hSw; (try dsimp only at hSw); go_simp; try (with_reducible rfl))
                      try simp only [Act.put, List.setIfInBounds_toArray, List.set_cons_zero, List.set_cons_succ]
                      refine wpAnyH_takeD (i := 7) (v := ?_) rfl (by kernel_rfl) (by kernel_rfl) (by kernel_rfl) (fun _ _ _ h => h) (Or.inl ⟨by kernel_rfl, ?_⟩) hS ?_
                      rotate_left 1
                      · (intro w' hSw; (try dsimp only at hSw); go_simp; try (with_reducible rfl))
                      try simp only [Act.put, List.setIfInBounds_toArray, List.set_cons_zero, List.set_cons_succ]
                      refine wpAnyH_takeD (i := 8) (v := ?_) rfl (by kernel_rfl) (by kernel_rfl) (by kernel_rfl) (fun _ _ _ h => h) (Or.inl ⟨by kernel_rfl, ?_⟩) hS ?_
                      rotate_left 1
                      · (intro w' hSw; (try dsimp only at hSw); go_simp; try (with_reducible rfl))
                      try simp only [Act.put, List.setIfInBounds_toArray, List.set_cons_zero, List.set_cons_succ]
                      refine wpAnyH_takeD (i := 9) (v := ?_) rfl (by kernel_rfl) (by kernel_rfl) (by kernel_rfl) (fun _ _ _ h => h) (Or.inl ⟨by kernel_rfl, ?_⟩) hS ?_
                      rotate_left 1
                      · (intro w' hSw; (try dsimp only at hSw); go_simp; try (with_reducible rfl))
                      try simp only [Act.put, List.setIfInBounds_toArray, List.set_cons_zero, List.set_cons_succ]
                      refine wpAnyH_takeD (i := 10) (v := ?_) rfl (by kernel_rfl) (by kernel_rfl) (by kernel_rfl) (fun _ _ _ h => h) (Or.inl ⟨by kernel_rfl, ?_⟩) hS ?_
                      rotate_left 1
                      · (intro w' hSw; (try dsimp only at hSw); go_simp; try (with_reducible rfl))
                      try simp only [Act.put, List.setIfInBounds_toArray, List.set_cons_zero, List.set_cons_succ]
                      refine wpAnyH_takeD (i := 11) (v := ?_) rfl (by kernel_rfl) (by kernel_rfl) (by kernel_rfl) (fun _ _ _ h => h) (Or.inl ⟨by kernel_rfl, ?_⟩) hS ?_
                      rotate_left 1
                      · (intro w' hSw; (try dsimp only at hSw); go_simp; try (with_reducible rfl))
                      try simp only [Act.put, List.setIfInBounds_toArray, List.set_cons_zero, List.set_cons_succ]
                      refine wpAnyH_takeD (i := 12) (v := ?_) rfl (by kernel_rfl) (by kernel_rfl) (by kernel_rfl) (fun _ _ _ h => h) (Or.inl ⟨by kernel_rfl, ?_⟩) hS ?_
                      rotate_left 1
                      · (intro w' hSw; (try dsimp only at hSw); go_simp; try (with_reducible rfl))
                      try simp only [Act.put, List.setIfInBounds_toArray, List.set_cons_zero, List.set_cons_succ]
                      refine wpAnyH_takeD (i := 13) (v := ?_) rfl (by kernel_rfl) (by kernel_rfl) (by kernel_rfl) (fun _ _ _ h => h) (Or.inl ⟨by kernel_rfl, ?_⟩) hS ?_
                      rotate_left 1
                      · (intro w' hSw; (try dsimp only at hSw); go_simp; try (with_reducible rfl))
                      try simp only [Act.put, List.setIfInBounds_toArray, List.set_cons_zero, List.set_cons_succ]
                      refine wpAnyH_takeD (i := 14) (v := ?_) rfl (by kernel_rfl) (by kernel_rfl) (by kernel_rfl) (fun _ _ _ h => h) (Or.inl ⟨by kernel_rfl, ?_⟩) hS ?_
                      rotate_left 1
                      · (intro w' hSw; (try dsimp only at hSw); go_simp; try (with_reducible rfl))
                      try simp only [Act.put, List.setIfInBounds_toArray, List.set_cons_zero, List.set_cons_succ]
                      refine wpAnyH_takeD (i := 15) (v := ?_) rfl (by kernel_rfl) (by kernel_rfl) (by kernel_rfl) (fun _ _ _ h => h) (Or.inl ⟨by kernel_rfl, ?_⟩) hS ?_
                      rotate_left 1
                      · (intro w' hSw; (try dsimp only at hSw); go_simp; try (with_reducible rfl))
                      try simp only [Act.put, List.setIfInBounds_toArray, List.set_cons_zero, List.set_cons_succ]
                      refine wpAnyH_takeD (i := 16) (v := ?_) rfl (by kernel_rfl) (by kernel_rfl) (by kernel_rfl) (fun _ _ _ h => h) (Or.inl ⟨by kernel_rfl, ?_⟩) hS ?_
                      rotate_left 1
                      · (intro w' hSw; (try dsimp only at hSw); go_simp; try (with_reducible rfl))
                      try simp only [Act.put, List.setIfInBounds_toArray, List.set_cons_zero, List.set_cons_succ]
                      refine wpAnyH_takeD (i := 17) (v := ?_) rfl (by kernel_rfl) (by kernel_rfl) (by kernel_rfl) (fun _ _ _ h => h) (Or.inl ⟨by kernel_rfl, ?_⟩) hS ?_
                      rotate_left 1
                      · (intro w' hSw; (try dsimp only at hSw); go_simp; try (with_reducible rfl))
                      try simp only [Act.put, List.setIfInBounds_toArray, List.set_cons_zero, List.set_cons_succ]
                      refine wpAnyH_takeD (i := 18) (v := ?_) rfl (by kernel_rfl) (by kernel_rfl) (by kernel_rfl) (fun _ _ _ h => h) (Or.inl ⟨by kernel_rfl, ?_⟩) hS ?_
                      rotate_left 1
                      · (intro w' hSw; (try dsimp only at hSw); go_simp; try (with_reducible rfl))
                      try simp only [Act.put, List.setIfInBounds_toArray, List.set_cons_zero, List.set_cons_succ]
                      refine wpAnyH_takeD (i := 19) (v := ?_) rfl (by kernel_rfl) (by kernel_rfl) (by kernel_rfl) (fun _ _ _ h => h) (Or.inl ⟨by kernel_rfl, ?_⟩) hS ?_
                      rotate_left 1
                      · (intro w' hSw; (try dsimp only at hSw); go_simp; try (with_reducible rfl))
                      try simp only [Act.put, List.setIfInBounds_toArray, List.set_cons_zero, List.set_cons_succ]
                      refine wpAnyH_takeD (i := 20) (v := ?_) rfl (by kernel_rfl) (by kernel_rfl) (by kernel_rfl) (fun _ _ _ h => h) (Or.inl ⟨by kernel_rfl, ?_⟩) hS ?_
                      rotate_left 1
                      · (intro w' hSw; (try dsimp only at hSw); go_simp; try (with_reducible rfl))
                      try simp only [Act.put, List.setIfInBounds_toArray, List.set_cons_zero, List.set_cons_succ]
                      refine wpAnyH_takeD (i := 21) (v := ?_) rfl (by kernel_rfl) (by kernel_rfl) (by kernel_rfl) (fun _ _ _ h => h) (Or.inl ⟨by kernel_rfl, ?_⟩) hS ?_
                      rotate_left 1
                      · (intro w' hSw; (try dsimp only at hSw); go_simp; try (with_reducible rfl))
                      try simp only [Act.put, List.setIfInBounds_toArray, List.set_cons_zero, List.set_cons_succ]
                      refine wpAnyH_takeD (i := 22) (v := ?_) rfl (by kernel_rfl) (by kernel_rfl) (by kernel_rfl) (fun _ _ _ h => h) (Or.inl ⟨by kernel_rfl, ?_⟩) hS ?_
                      rotate_left 1
                      · (intro w' hSw; (try dsimp only at hSw); go_simp; try (with_reducible rfl))
                      try simp only [Act.put, List.setIfInBounds_toArray, List.set_cons_zero, List.set_cons_succ]
                      refine wpAnyH_takeD (i := 23) (v := ?_) rfl (by kernel_rfl) (by kernel_rfl) (by kernel_rfl) (fun _ _ _ h => h) (Or.inl ⟨by kernel_rfl, ?_⟩) hS ?_
                      rotate_left 1
                      · (intro w' hSw; (try dsimp only at hSw); go_simp; try (with_reducible rfl))
                      try simp only [Act.put, List.setIfInBounds_toArray, List.set_cons_zero, List.set_cons_succ]
                      refine wpAnyH_takeD (i := 24) (v := ?_) rfl (by kernel_rfl) (by kernel_rfl) (by kernel_rfl) (fun _ _ _ h => h) (Or.inl ⟨by kernel_rfl, ?_⟩) hS ?_
                      rotate_left 1
                      · (intro w' hSw; (try dsimp only at hSw); go_simp; try (with_reducible rfl))
                      try simp only [Act.put, List.setIfInBounds_toArray, List.set_cons_zero, List.set_cons_succ]
                      refine wpAnyH_oneD (i := 25) rfl (by kernel_rfl) (fun K hK => ?_)
                      rw [if_pos (by kernel_rfl)]
                      go_simp
                      rw [HWD.out]
                      refine Calls.mono HALL.out ?_
                      rintro e w9 ⟨rfl, hb9'⟩
                      have hb9 : Below wr.heap.size wr w9 := hbd.trans (hb9'.mono hbd.size)
                      clear hb9'
                      dsimp only
                      refine hK.out _ _ ⟨(hb9.cell (p := ⟨bs, os + k, none⟩) hbsl).trans s0, (hb9.cell (p := ⟨bx, 0, none⟩) hbxr).trans b0, (hb9.cell (p := ⟨bx, 1, none⟩) hbxr).trans b1, (hb9.cell (p := ⟨bx, 2, none⟩) hbxr).trans b2⟩ (fun hS => ?_)
                      clear hK
                      try simp only [Act.put, List.setIfInBounds_toArray, List.set_cons_zero, List.set_cons_succ]
                      refine wpAnyH_takeD (i := 26) (v := ?_) rfl (by kernel_rfl) (by kernel_rfl) (by kernel_rfl) (fun _ _ _ h => h) (Or.inl ⟨by kernel_rfl, ?_⟩) hS ?_
                      rotate_left 1
                      · (intro w' hSw; (try dsimp only at hSw); go_simp; try (with_reducible rfl))
                      try simp only [Act.put, List.setIfInBounds_toArray, List.set_cons_zero, List.set_cons_succ]
                      refine wpAnyH_done (by kernel_rfl) ?_ _
                      have hb39 := (hb9.cell (p := ⟨bx, 3, none⟩) hbxr).trans b3
                      have HN9 := Lib.hid (HNow.out w9 hb9 HNX2.out)
                      clear HNow
                      go_wp2_with fail
                      refine Calls.mono HN9.out ?_
                      rintro e wx ⟨rfl, hbx9⟩
                      have hb6x := (hb6r.trans (hb9.mono hb6r.size)).trans (hbx9.mono (hb6r.trans (hb9.mono hb6r.size)).size)
                      go_wp2_with fail
                      go_roundw
                      case rel => exact ⟨i + 1, true, by omega, by go_num, rfl, by show _ = _; rw [HSN.out, HFT.out, Bool.or_true], hb6x⟩
                      case measure => simp [intOf]; omega
                  · have hfit : fitB S x.1 x.2.1 (fun x => (R.getD x []).getD (q) false) (onL x.2.2.1) = false := by
                      unfold fitB; rw [decide_eq_false hBn]; simp
                    have HFT := Lib.hid hfit
                    rw [hA] at hand1
                    obtain ⟨zz, hzz⟩ : ∃ zz, S &&& x.2.1 = zz := ⟨_, rfl⟩
                    rw [hzz] at hand2 hBn
                    have hne : (((zz : Nat) : Int) == 0) = false := by simpa using hBn
                    clear hfit hA hBn hzz
                    go_wp2_with fail
                    refine wp_region_held_drew (S := fun w' => w'.cell? ⟨bs, os + k, none⟩ = some (.int .u64 (S : Int)) ∧ w'.cell? ⟨bx, 0, none⟩ = some (.int .u64 (x.1 : Int)) ∧ w'.cell? ⟨bx, 1, none⟩ = some (.int .u64 (x.2.1 : Int)) ∧ w'.cell? ⟨bx, 2, none⟩ = some (.slice E1 (onL x.2.2.1).length e1)) (by kernel_rfl) ⟨s0, b0, b1, b2⟩ (fun hS => ?_)
                    refine wpAnyH_takeD (i := 0) (v := ?_) rfl (by kernel_rfl) (by kernel_rfl) (by kernel_rfl) (fun _ _ _ h => h) (Or.inl ⟨by kernel_rfl, ?_⟩) hS ?_
                    rotate_left 1
                    · (intro w' hSw; (try dsimp only at hSw); go_simp; try (with_reducible rfl))
                    try simp only [Act.put, List.setIfInBounds_toArray, List.set_cons_zero, List.set_cons_succ]
                    refine wpAnyH_takeD (i := 1) (v := ?_) rfl (by kernel_rfl) (by kernel_rfl) (by kernel_rfl) (fun _ _ _ h => h) (Or.inl ⟨by kernel_rfl, ?_⟩) hS ?_
                    rotate_left 1
                    · (intro w' hSw; (try dsimp only at hSw); go_simp; try (with_reducible rfl))
                    try simp only [Act.put, List.setIfInBounds_toArray, List.set_cons_zero, List.set_cons_succ]
                    refine wpAnyH_takeD (i := 2) (v := ?_) rfl (by kernel_rfl) (by kernel_rfl) (by kernel_rfl) (fun _ _ _ h => h) (Or.inl ⟨by kernel_rfl, ?_⟩) hS ?_
                    rotate_left 1
                    · (intro w' hSw; (try dsimp only at hSw); go_simp; try (with_reducible rfl))
                    try simp only [Act.put, List.setIfInBounds_toArray, List.set_cons_zero, List.set_cons_succ]
                    refine wpAnyH_takeD (i := 3) (v := ?_) rfl (by kernel_rfl) (by kernel_rfl) (by kernel_rfl) (fun _ _ _ h => h) (Or.inl ⟨by kernel_rfl, ?_⟩) hS ?_
                    rotate_left 1
                    · (intro w' hSw; (try dsimp only at hSw); go_simp; try (with_reducible rfl))
                    try simp only [Act.put, List.setIfInBounds_toArray, List.set_cons_zero, List.set_cons_succ]
                    refine wpAnyH_takeD (i := 4) (v := ?_) rfl (by kernel_rfl) (by kernel_rfl) (by kernel_rfl) (fun _ _ _ h => h) (Or.inl ⟨by kernel_rfl, ?_⟩) hS ?_
                    rotate_left 1
                    · (intro w' hSw; (try dsimp only at hSw); go_simp; try (with_reducible rfl))
                    try simp only [Act.put, List.setIfInBounds_toArray, List.set_cons_zero, List.set_cons_succ]
                    refine wpAnyH_takeD (i := 5) (v := ?_) rfl (by kernel_rfl) (by kernel_rfl) (by kernel_rfl) (fun _ _ _ h => h) (Or.inl ⟨by kernel_rfl, ?_⟩) hS ?_
                    rotate_left 1
                    · (intro w' hSw; (try dsimp only at hSw); go_simp; try (with_reducible rfl))
                    try simp only [Act.put, List.setIfInBounds_toArray, List.set_cons_zero, List.set_cons_succ]
                    refine wpAnyH_takeD (i := 6) (v := ?_) rfl (by kernel_rfl) (by kernel_rfl) (by kernel_rfl) (fun _ _ _ h => h) (Or.inl ⟨by kernel_rfl, ?_⟩) hS ?_
                    rotate_left 1
                    · (intro w' hSw; (try dsimp only at hSw); go_simp; try (with_reducible rfl))
                    try simp only [Act.put, List.setIfInBounds_toArray, List.set_cons_zero, List.set_cons_succ]
                    refine wpAnyH_takeD (i := 7) (v := ?_) rfl (by kernel_rfl) (by kernel_rfl) (by kernel_rfl) (fun _ _ _ h => h) (Or.inl ⟨by kernel_rfl, ?_⟩) hS ?_
                    rotate_left 1
                    · (intro w' hSw; (try dsimp only at hSw); go_simp; try (with_reducible rfl))
                    try simp only [Act.put, List.setIfInBounds_toArray, List.set_cons_zero, List.set_cons_succ]
                    refine wpAnyH_takeD (i := 8) (v := ?_) rfl (by kernel_rfl) (by kernel_rfl) (by kernel_rfl) (fun _ _ _ h => h) (Or.inl ⟨by kernel_rfl, ?_⟩) hS ?_
                    rotate_left 1
                    · (intro w' hSw; (try dsimp only at hSw); go_simp; try (with_reducible rfl))
                    try simp only [Act.put, List.setIfInBounds_toArray, List.set_cons_zero, List.set_cons_succ]
                    refine wpAnyH_takeD (i := 9) (v := ?_) rfl (by kernel_rfl) (by kernel_rfl) (by kernel_rfl) (fun _ _ _ h => h) (Or.inl ⟨by kernel_rfl, ?_⟩) hS ?_
                    rotate_left 1
                    · (intro w' hSw; (try dsimp only at hSw); go_simp; try (with_reducible rfl))
                    try simp only [Act.put, List.setIfInBounds_toArray, List.set_cons_zero, List.set_cons_succ]
                    refine wpAnyH_takeD (i := 10) (v := ?_) rfl (by kernel_rfl) (by kernel_rfl) (by kernel_rfl) (fun _ _ _ h => h) (Or.inl ⟨by kernel_rfl, ?_⟩) hS ?_
                    rotate_left 1
                    · (intro w' hSw; (try dsimp only at hSw); go_simp; try (with_reducible rfl))
                    try simp only [Act.put, List.setIfInBounds_toArray, List.set_cons_zero, List.set_cons_succ]
                    refine wpAnyH_takeD (i := 11) (v := ?_) rfl (by kernel_rfl) (by kernel_rfl) (by kernel_rfl) (fun _ _ _ h => h) (Or.inl ⟨by kernel_rfl, ?_⟩) hS ?_
                    rotate_left 1
                    · (intro w' hSw; (try dsimp only at hSw); go_simp; try (with_reducible rfl))
                    try simp only [Act.put, List.setIfInBounds_toArray, List.set_cons_zero, List.set_cons_succ]
                    refine wpAnyH_takeD (i := 12) (v := ?_) rfl (by kernel_rfl) (by kernel_rfl) (by kernel_rfl) (fun _ _ _ h => h) (Or.inl ⟨by kernel_rfl, ?_⟩) hS ?_
                    rotate_left 1
                    · (intro w' hSw; (try dsimp only at hSw); go_simp; try (with_reducible rfl))
                    try simp only [Act.put, List.setIfInBounds_toArray, List.set_cons_zero, List.set_cons_succ]
                    refine wpAnyH_takeD (i := 13) (v := ?_) rfl (by kernel_rfl) (by kernel_rfl) (by kernel_rfl) (fun _ _ _ h => h) (Or.inl ⟨by kernel_rfl, ?_⟩) hS ?_
                    rotate_left 1
                    · (intro w' hSw; (try dsimp only at hSw); go_simp; try (with_reducible rfl))
                    try simp only [Act.put, List.setIfInBounds_toArray, List.set_cons_zero, List.set_cons_succ]
                    refine wpAnyH_takeD (i := 14) (v := ?_) rfl (by kernel_rfl) (by kernel_rfl) (by kernel_rfl) (fun _ _ _ h => h) (Or.inl ⟨by kernel_rfl, ?_⟩) hS ?_
                    rotate_left 1
                    · (intro w' hSw; (try dsimp only at hSw); go_simp; try (with_reducible rfl))
                    try simp only [Act.put, List.setIfInBounds_toArray, List.set_cons_zero, List.set_cons_succ]
                    refine wpAnyH_takeD (i := 15) (v := ?_) rfl (by kernel_rfl) (by kernel_rfl) (by kernel_rfl) (fun _ _ _ h => h) (Or.inl ⟨by kernel_rfl, ?_⟩) hS ?_
                    rotate_left 1
                    · (intro w' hSw; (try dsimp only at hSw); go_simp; try (with_reducible rfl))
                    try simp only [Act.put, List.setIfInBounds_toArray, List.set_cons_zero, List.set_cons_succ]
                    refine wpAnyH_takeD (i := 16) (v := ?_) rfl (by kernel_rfl) (by kernel_rfl) (by kernel_rfl) (fun _ _ _ h => h) (Or.inl ⟨by kernel_rfl, ?_⟩) hS ?_
                    rotate_left 1
                    · (intro w' hSw; (try dsimp only at hSw); go_simp; try (with_reducible rfl))
                    try simp only [Act.put, List.setIfInBounds_toArray, List.set_cons_zero, List.set_cons_succ]
                    refine wpAnyH_takeD (i := 17) (v := ?_) rfl (by kernel_rfl) (by kernel_rfl) (by kernel_rfl) (fun _ _ _ h => h) (Or.inl ⟨by kernel_rfl, ?_⟩) hS ?_
                    rotate_left 1
                    · (intro w' hSw; (try dsimp only at hSw); go_simp; try (with_reducible rfl))
                    try simp only [Act.put, List.setIfInBounds_toArray, List.set_cons_zero, List.set_cons_succ]
                    refine wpAnyH_takeD (i := 18) (v := ?_) rfl (by kernel_rfl) (by kernel_rfl) (by kernel_rfl) (fun _ _ _ h => h) (Or.inl ⟨by kernel_rfl, ?_⟩) hS ?_
                    rotate_left 1
                    · (intro w' hSw; (try dsimp only at hSw); go_simp; try (with_reducible rfl))
                    try simp only [Act.put, List.setIfInBounds_toArray, List.set_cons_zero, List.set_cons_succ]
                    refine wpAnyH_takeD (i := 19) (v := ?_) rfl (by kernel_rfl) (by kernel_rfl) (by kernel_rfl) (fun _ _ _ h => h) (Or.inl ⟨by kernel_rfl, ?_⟩) hS ?_
                    rotate_left 1
                    · (intro w' hSw; (try dsimp only at hSw); go_simp; try (with_reducible rfl))
                    try simp only [Act.put, List.setIfInBounds_toArray, List.set_cons_zero, List.set_cons_succ]
                    refine wpAnyH_takeD (i := 20) (v := ?_) rfl (by kernel_rfl) (by kernel_rfl) (by kernel_rfl) (fun _ _ _ h => h) (Or.inl ⟨by kernel_rfl, ?_⟩) hS ?_
                    rotate_left 1
                    · (intro w' hSw; (try dsimp only at hSw); go_simp; try (with_reducible rfl))
                    try simp only [Act.put, List.setIfInBounds_toArray, List.set_cons_zero, List.set_cons_succ]
                    refine wpAnyH_takeD (i := 21) (v := undef) rfl (by kernel_rfl) (by kernel_rfl) (by kernel_rfl) (fun _ _ _ h => h) (Or.inr ⟨by kernel_rfl, rfl⟩) hS ?_
                    try simp only [Act.put, List.setIfInBounds_toArray, List.set_cons_zero, List.set_cons_succ]
                    refine wpAnyH_takeD (i := 22) (v := undef) rfl (by kernel_rfl) (by kernel_rfl) (by kernel_rfl) (fun _ _ _ h => h) (Or.inr ⟨by kernel_rfl, rfl⟩) hS ?_
                    try simp only [Act.put, List.setIfInBounds_toArray, List.set_cons_zero, List.set_cons_succ]
                    refine wpAnyH_takeD (i := 23) (v := undef) rfl (by kernel_rfl) (by kernel_rfl) (by kernel_rfl) (fun _ _ _ h => h) (Or.inr ⟨by kernel_rfl, rfl⟩) hS ?_
                    try simp only [Act.put, List.setIfInBounds_toArray, List.set_cons_zero, List.set_cons_succ]
                    refine wpAnyH_takeD (i := 24) (v := undef) rfl (by kernel_rfl) (by kernel_rfl) (by kernel_rfl) (fun _ _ _ h => h) (Or.inr ⟨by kernel_rfl, rfl⟩) hS ?_
                    try simp only [Act.put, List.setIfInBounds_toArray, List.set_cons_zero, List.set_cons_succ]
                    refine wpAnyH_takeD (i := 25) (v := undef) rfl (by kernel_rfl) (by kernel_rfl) (by kernel_rfl) (fun _ _ _ h => h) (Or.inr ⟨by kernel_rfl, rfl⟩) hS ?_
                    try simp only [Act.put, List.setIfInBounds_toArray, List.set_cons_zero, List.set_cons_succ]
                    refine wpAnyH_takeD (i := 26) (v := ?_) rfl (by kernel_rfl) (by kernel_rfl) (by kernel_rfl) (fun _ _ _ h => h) (Or.inl ⟨by kernel_rfl, ?_⟩) hS ?_
                    rotate_left 1
                    · (intro w' hSw; (try dsimp only at hSw); go_simp; try (with_reducible rfl))
                    try simp only [Act.put, List.setIfInBounds_toArray, List.set_cons_zero, List.set_cons_succ]
                    refine wpAnyH_done (by kernel_rfl) ?_ _
                    go_wp2_with fail
                    go_roundw
                    case rel => exact ⟨i + 1, b, by omega, by go_num, rfl, by show _ = _; rw [HSN.out, HFT.out, Bool.or_false]; exact HQ.out, hb6r.trans (hbd.mono hb6r.size)⟩
                    case measure => simp [intOf]; omega
                · have hfit : fitB S x.1 x.2.1 (fun x => (R.getD x []).getD (q) false) (onL x.2.2.1) = false := by
                    unfold fitB; rw [decide_eq_false hA]; simp
                  have HFT := Lib.hid hfit
                  obtain ⟨zz, hzz⟩ : ∃ zz, S &&& x.1 = zz := ⟨_, rfl⟩
                  rw [hzz] at hand1 hA
                  have hne : (zz == x.1) = false := by simpa using hA
                  have hneI : (((zz : Nat) : Int) == (x.1 : Int)) = false := by simp; omega
                  clear hfit hA hzz
                  go_wp2_with fail
                  refine wp_region_held_drew (S := fun w' => w'.cell? ⟨bs, os + k, none⟩ = some (.int .u64 (S : Int)) ∧ w'.cell? ⟨bx, 0, none⟩ = some (.int .u64 (x.1 : Int)) ∧ w'.cell? ⟨bx, 1, none⟩ = some (.int .u64 (x.2.1 : Int)) ∧ w'.cell? ⟨bx, 2, none⟩ = some (.slice E1 (onL x.2.2.1).length e1)) (by kernel_rfl) ⟨s0, b0, b1, b2⟩ (fun hS => ?_)
                  refine wpAnyH_takeD (i := 0) (v := ?_) rfl (by kernel_rfl) (by kernel_rfl) (by kernel_rfl) (fun _ _ _ h => h) (Or.inl ⟨by kernel_rfl, ?_⟩) hS ?_
                  rotate_left 1
                  · (intro w' hSw; (try dsimp only at hSw); go_simp; try (with_reducible rfl))
                  try simp only [Act.put, List.setIfInBounds_toArray, List.set_cons_zero, List.set_cons_succ]
                  refine wpAnyH_takeD (i := 1) (v := ?_) rfl (by kernel_rfl) (by kernel_rfl) (by kernel_rfl) (fun _ _ _ h => h) (Or.inl ⟨by kernel_rfl, ?_⟩) hS ?_
                  rotate_left 1
                  · (intro w' hSw; (try dsimp only at hSw); go_simp; try (with_reducible rfl))
                  try simp only [Act.put, List.setIfInBounds_toArray, List.set_cons_zero, List.set_cons_succ]
                  refine wpAnyH_takeD (i := 2) (v := ?_) rfl (by kernel_rfl) (by kernel_rfl) (by kernel_rfl) (fun _ _ _ h => h) (Or.inl ⟨by kernel_rfl, ?_⟩) hS ?_
                  rotate_left 1
                  · (intro w' hSw; (try dsimp only at hSw); go_simp; try (with_reducible rfl))
                  try simp only [Act.put, List.setIfInBounds_toArray, List.set_cons_zero, List.set_cons_succ]
                  refine wpAnyH_takeD (i := 3) (v := ?_) rfl (by kernel_rfl) (by kernel_rfl) (by kernel_rfl) (fun _ _ _ h => h) (Or.inl ⟨by kernel_rfl, ?_⟩) hS ?_
                  rotate_left 1
                  · (intro w' hSw; (try dsimp only at hSw); go_simp; try (with_reducible rfl))
                  try simp only [Act.put, List.setIfInBounds_toArray, List.set_cons_zero, List.set_cons_succ]
                  refine wpAnyH_takeD (i := 4) (v := ?_) rfl (by kernel_rfl) (by kernel_rfl) (by kernel_rfl) (fun _ _ _ h => h) (Or.inl ⟨by kernel_rfl, ?_⟩) hS ?_
                  rotate_left 1
                  · (intro w' hSw; (try dsimp only at hSw); go_simp; try (with_reducible rfl))
                  try simp only [Act.put, List.setIfInBounds_toArray, List.set_cons_zero, List.set_cons_succ]
                  refine wpAnyH_takeD (i := 5) (v := ?_) rfl (by kernel_rfl) (by kernel_rfl) (by kernel_rfl) (fun _ _ _ h => h) (Or.inl ⟨by kernel_rfl, ?_⟩) hS ?_
                  rotate_left 1
                  · (intro w' hSw; (try dsimp only at hSw); go_simp; try (with_reducible rfl))
                  try simp only [Act.put, List.setIfInBounds_toArray, List.set_cons_zero, List.set_cons_succ]
                  refine wpAnyH_takeD (i := 6) (v := ?_) rfl (by kernel_rfl) (by kernel_rfl) (by kernel_rfl) (fun _ _ _ h => h) (Or.inl ⟨by kernel_rfl, ?_⟩) hS ?_
                  rotate_left 1
                  · (intro w' hSw; (try dsimp only at hSw); go_simp; try (with_reducible rfl))
                  try simp only [Act.put, List.setIfInBounds_toArray, List.set_cons_zero, List.set_cons_succ]
                  refine wpAnyH_takeD (i := 7) (v := ?_) rfl (by kernel_rfl) (by kernel_rfl) (by kernel_rfl) (fun _ _ _ h => h) (Or.inl ⟨by kernel_rfl, ?_⟩) hS ?_
                  rotate_left 1
                  · (intro w' hSw; (try dsimp only at hSw); go_simp; try (with_reducible rfl))
                  try simp only [Act.put, List.setIfInBounds_toArray, List.set_cons_zero, List.set_cons_succ]
                  refine wpAnyH_takeD (i := 8) (v := ?_) rfl (by kernel_rfl) (by kernel_rfl) (by kernel_rfl) (fun _ _ _ h => h) (Or.inl ⟨by kernel_rfl, ?_⟩) hS ?_
                  rotate_left 1
                  · (intro w' hSw; (try dsimp only at hSw); go_simp; try (with_reducible rfl))
                  try simp only [Act.put, List.setIfInBounds_toArray, List.set_cons_zero, List.set_cons_succ]
                  refine wpAnyH_takeD (i := 9) (v := ?_) rfl (by kernel_rfl) (by kernel_rfl) (by kernel_rfl) (fun _ _ _ h => h) (Or.inl ⟨by kernel_rfl, ?_⟩) hS ?_
                  rotate_left 1
                  · (intro w' hSw; (try dsimp only at hSw); go_simp; try (with_reducible rfl))
                  try simp only [Act.put, List.setIfInBounds_toArray, List.set_cons_zero, List.set_cons_succ]
                  refine wpAnyH_takeD (i := 10) (v := ?_) rfl (by kernel_rfl) (by kernel_rfl) (by kernel_rfl) (fun _ _ _ h => h) (Or.inl ⟨by kernel_rfl, ?_⟩) hS ?_
                  rotate_left 1
                  · (intro w' hSw; (try dsimp only at hSw); go_simp; try (with_reducible rfl))
                  try simp only [Act.put, List.setIfInBounds_toArray, List.set_cons_zero, List.set_cons_succ]
                  refine wpAnyH_takeD (i := 11) (v := undef) rfl (by kernel_rfl) (by kernel_rfl) (by kernel_rfl) (fun _ _ _ h => h) (Or.inr ⟨by kernel_rfl, rfl⟩) hS ?_
                  try simp only [Act.put, List.setIfInBounds_toArray, List.set_cons_zero, List.set_cons_succ]
                  refine wpAnyH_takeD (i := 12) (v := undef) rfl (by kernel_rfl) (by kernel_rfl) (by kernel_rfl) (fun _ _ _ h => h) (Or.inr ⟨by kernel_rfl, rfl⟩) hS ?_
                  try simp only [Act.put, List.setIfInBounds_toArray, List.set_cons_zero, List.set_cons_succ]
                  refine wpAnyH_takeD (i := 13) (v := undef) rfl (by kernel_rfl) (by kernel_rfl) (by kernel_rfl) (fun _ _ _ h => h) (Or.inr ⟨by kernel_rfl, rfl⟩) hS ?_
                  try simp only [Act.put, List.setIfInBounds_toArray, List.set_cons_zero, List.set_cons_succ]
                  refine wpAnyH_takeD (i := 14) (v := undef) rfl (by kernel_rfl) (by kernel_rfl) (by kernel_rfl) (fun _ _ _ h => h) (Or.inr ⟨by kernel_rfl, rfl⟩) hS ?_
                  try simp only [Act.put, List.setIfInBounds_toArray, List.set_cons_zero, List.set_cons_succ]
                  refine wpAnyH_takeD (i := 15) (v := undef) rfl (by kernel_rfl) (by kernel_rfl) (by kernel_rfl) (fun _ _ _ h => h) (Or.inr ⟨by kernel_rfl, rfl⟩) hS ?_
                  try simp only [Act.put, List.setIfInBounds_toArray, List.set_cons_zero, List.set_cons_succ]
                  refine wpAnyH_takeD (i := 16) (v := undef) rfl (by kernel_rfl) (by kernel_rfl) (by kernel_rfl) (fun _ _ _ h => h) (Or.inr ⟨by kernel_rfl, rfl⟩) hS ?_
                  try simp only [Act.put, List.setIfInBounds_toArray, List.set_cons_zero, List.set_cons_succ]
                  refine wpAnyH_takeD (i := 17) (v := undef) rfl (by kernel_rfl) (by kernel_rfl) (by kernel_rfl) (fun _ _ _ h => h) (Or.inr ⟨by kernel_rfl, rfl⟩) hS ?_
                  try simp only [Act.put, List.setIfInBounds_toArray, List.set_cons_zero, List.set_cons_succ]
                  refine wpAnyH_takeD (i := 18) (v := undef) rfl (by kernel_rfl) (by kernel_rfl) (by kernel_rfl) (fun _ _ _ h => h) (Or.inr ⟨by kernel_rfl, rfl⟩) hS ?_
                  try simp only [Act.put, List.setIfInBounds_toArray, List.set_cons_zero, List.set_cons_succ]
                  refine wpAnyH_takeD (i := 19) (v := ?_) rfl (by kernel_rfl) (by kernel_rfl) (by kernel_rfl) (fun _ _ _ h => h) (Or.inl ⟨by kernel_rfl, ?_⟩) hS ?_
                  rotate_left 1
                  · (intro w' hSw; (try dsimp only at hSw); go_simp; try (with_reducible rfl))
                  try simp only [Act.put, List.setIfInBounds_toArray, List.set_cons_zero, List.set_cons_succ]
                  refine wpAnyH_takeD (i := 20) (v := ?_) rfl (by kernel_rfl) (by kernel_rfl) (by kernel_rfl) (fun _ _ _ h => h) (Or.inl ⟨by kernel_rfl, ?_⟩) hS ?_
                  rotate_left 1
                  · (intro w' hSw; (try dsimp only at hSw); go_simp; try (with_reducible rfl))
                  try simp only [Act.put, List.setIfInBounds_toArray, List.set_cons_zero, List.set_cons_succ]
                  refine wpAnyH_takeD (i := 21) (v := undef) rfl (by kernel_rfl) (by kernel_rfl) (by kernel_rfl) (fun _ _ _ h => h) (Or.inr ⟨by kernel_rfl, rfl⟩) hS ?_
                  try simp only [Act.put, List.setIfInBounds_toArray, List.set_cons_zero, List.set_cons_succ]
                  refine wpAnyH_takeD (i := 22) (v := undef) rfl (by kernel_rfl) (by kernel_rfl) (by kernel_rfl) (fun _ _ _ h => h) (Or.inr ⟨by kernel_rfl, rfl⟩) hS ?_
                  try simp only [Act.put, List.setIfInBounds_toArray, List.set_cons_zero, List.set_cons_succ]
                  refine wpAnyH_takeD (i := 23) (v := undef) rfl (by kernel_rfl) (by kernel_rfl) (by kernel_rfl) (fun _ _ _ h => h) (Or.inr ⟨by kernel_rfl, rfl⟩) hS ?_
                  try simp only [Act.put, List.setIfInBounds_toArray, List.set_cons_zero, List.set_cons_succ]
                  refine wpAnyH_takeD (i := 24) (v := undef) rfl (by kernel_rfl) (by kernel_rfl) (by kernel_rfl) (fun _ _ _ h => h) (Or.inr ⟨by kernel_rfl, rfl⟩) hS ?_
                  try simp only [Act.put, List.setIfInBounds_toArray, List.set_cons_zero, List.set_cons_succ]
                  refine wpAnyH_takeD (i := 25) (v := undef) rfl (by kernel_rfl) (by kernel_rfl) (by kernel_rfl) (fun _ _ _ h => h) (Or.inr ⟨by kernel_rfl, rfl⟩) hS ?_
                  try simp only [Act.put, List.setIfInBounds_toArray, List.set_cons_zero, List.set_cons_succ]
                  refine wpAnyH_takeD (i := 26) (v := ?_) rfl (by kernel_rfl) (by kernel_rfl) (by kernel_rfl) (fun _ _ _ h => h) (Or.inl ⟨by kernel_rfl, ?_⟩) hS ?_
                  rotate_left 1
                  · (intro w' hSw; (try dsimp only at hSw); go_simp; try (with_reducible rfl))
                  try simp only [Act.put, List.setIfInBounds_toArray, List.set_cons_zero, List.set_cons_succ]
                  refine wpAnyH_done (by kernel_rfl) ?_ _
                  go_wp2_with fail
                  go_roundw
                  case rel => exact ⟨i + 1, b, by omega, by go_num, rfl, by show _ = _; rw [HSN.out, HFT.out, Bool.or_false]; exact HQ.out, hb6r.trans (hbd.mono hb6r.size)⟩
                  case measure => simp [intOf]; omega
          · have hkl : i = T.length := by omega
            subst hkl
            rw [List.take_of_length_le (Nat.le_refl _), HANY.out] at HQ
            clear hlt
            have hpal := all28_any w1 wr vt R (HG6.out.below hbr) Ap np cp PS w.heap.size (HP.out.below (hb06.trans (hbr.mono hz6)) (Nat.le_refl _)) (Nat.le_trans hz6 hsr) HPL.out.1 k (fun z hz => by rw [HRl.out]; exact HPL.out.2 z hz) (fun r hr => by rw [HRn.out r hr]; exact hkN) (by rw [HRl.out]; omega) (by omega) (by omega)
            rw [← HQ.out] at hpal
            have HPA := Lib.hid hpal
            clear hpal HQ
            go_wp2_with fail
            refine Calls.mono HPA.out ?_
            rintro e wx ⟨rfl, hbx⟩
            go_wp2_with fail
            go_roundw
            case rel => exact ⟨q, by omega, by go_num, hbr.trans (hbx.mono hsr)⟩
            case measure => simp [intOf]; omega
    · have hkl : k = N := by omega
      subst hkl
      clear hkN
      go_wp2_with fail
      refine Calls.mono (lives28_any wr) ?_
      rintro e wl ⟨rfl, hbl⟩
      go_wp2_with fail
      go_ret
      exact ⟨rfl, hb06.trans ((hbr.trans (hbl.mono hsr)).mono hz6)⟩
end Go.Proofs.Ytedohmcnjlhdnaa
