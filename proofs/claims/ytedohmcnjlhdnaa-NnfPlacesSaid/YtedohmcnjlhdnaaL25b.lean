/- The walks of the laws of layer 25 on words: NnfWords, NnfPlaces. -/
import Derived.Test.YtedohmcnjlhdnaaL25a
import Derived.Test.YtedohmcnjlhdnaaR25h
namespace Go.Proofs.Ytedohmcnjlhdnaa
open Go.RowKit

theorem holds_form {f : List Nd} {st lo : List Int} (hw : wrong f = 0) (h : lo ≠ []) (y : Bool) : holdsL (formL f y) st lo = (if y then holdsL f st lo else !holdsL f st lo) := by
  obtain ⟨hok, hfl⟩ := treeOf_ok hw
  have hlo : 0 < lo.length := List.length_pos_iff.2 h
  have e : treeOf (formL f y) = nn (treeOf f) y := by rw [formL, if_pos hw, treeOf_flat (nn_ok _ _ hok).1]
  have hl := val_flat (bits := bitsOf (st ++ lo)) (n := st.length + lo.length) (lp := st.length) hw
  rw [holdsL_some (formL_good hw y).1 h, holdsL_some hw h, e, val_nn (by omega) (treeOf f) y hok]
  cases y
  · rw [if_neg (by decide), if_neg (by decide), flip_get (by omega)]
  · rfl

theorem far_yes (A A1 A2 : Option Addr) (n c n1 c1 n2 c2 : Nat) (w : World) (h : 100 < n ∨ 60 < n1 + n2) (hl : n1 ≤ 17592186044416) (hl2 : n2 ≤ 17592186044416) :
    Calls Try.prog 18 #[.slice A n c, .agg #[.slice A1 n1 c1, .slice A2 n2 c2]] w (Tru w true) := by
  by_cases h1 : 100 < n
  · have h1' : (100 : Int) < (n : Int) := by omega
    go_enter Try.func18, Try.ntmps18
    go_wp2
    go_ret
    exact ⟨rfl, (Below.refl _ _).alloc (Nat.le_refl _) _⟩
  · have h1' : decide ((100 : Int) < (n : Int)) = false := by simp; omega
    have h2 : (60 : Int) < (n1 : Int) + (n2 : Int) := by omega
    go_enter Try.func18, Try.ntmps18
    go_wp2
    go_ret
    exact ⟨rfl, (Below.refl _ _).alloc (Nat.le_refl _) _⟩
theorem far_no (A A1 A2 : Option Addr) (n c n1 c1 n2 c2 : Nat) (w : World) (h : n ≤ 100) (h0 : n1 + n2 ≤ 60) :
    Calls Try.prog 18 #[.slice A n c, .agg #[.slice A1 n1 c1, .slice A2 n2 c2]] w (Tru w false) := by
  have h1' : decide ((100 : Int) < (n : Int)) = false := by simp; omega
  have h2 : decide ((60 : Int) < (n1 : Int) + (n2 : Int)) = false := by simp; omega
  go_enter Try.func18, Try.ntmps18
  go_wp2
  go_ret
  exact ⟨rfl, (Below.refl _ _).alloc (Nat.le_refl _) _⟩

set_option maxHeartbeats 2000000 in
theorem NnfWords_any (A A1 A2 : Option Addr) (n c n1 c1 n2 c2 : Nat) (f : List Nd) (st lo : List Int) (w : World) (hn : n = f.length) (hn1 : n1 = st.length) (hn2 : n2 = lo.length)
    (hf : Sl w w.heap.size 2 A n c (ncells f)) (h1 : Sl w w.heap.size 1 A1 n1 c1 (ucells st)) (h2 : Sl w w.heap.size 1 A2 n2 c2 (ucells lo)) (hl : n ≤ 8796093022208) (hl1 : n1 ≤ 17592186044416) (hl2 : n2 ≤ 17592186044416) :
    Calls Try.prog 7 #[.slice A n c, .agg #[.slice A1 n1 c1, .slice A2 n2 c2]] w (Tru w true) := by
  have HN := Lib.hid hn
  have HN1 := Lib.hid hn1
  have HN2 := Lib.hid hn2
  clear hn1 hn2
  have hBeg := fun (w' : World) (hb : Below w.heap.size w w') => Begins_any A c f w' w.heap.size (by rw [← hn]; exact hf.below hb (Nat.le_refl _)) hb.size (by omega)
  rw [← hn] at hBeg
  have HBEG := Lib.hid hBeg
  clear hBeg hn
  have hW : Below w.heap.size w (w.alloc (.cells #[.slice A1 n1 c1, .slice A2 n2 c2] 27)) := (Below.refl _ _).alloc (Nat.le_refl _) _
  have hx : (w.alloc (.cells #[.slice A1 n1 c1, .slice A2 n2 c2] 27)).cell? ⟨w.heap.size, 0, none⟩ = some (.slice A1 n1 c1) ∧ (w.alloc (.cells #[.slice A1 n1 c1, .slice A2 n2 c2] 27)).cell? ⟨w.heap.size, 1, none⟩ = some (.slice A2 n2 c2) :=
    ⟨by rw [cell_of_row _ _ _ _ _ _ (heap_alloc_new w _)]; rfl, by rw [cell_of_row _ _ _ _ _ _ (heap_alloc_new w _)]; rfl⟩
  have HX := Lib.hid hx
  clear hx
  go_enter Try.func7, Try.ntmps7
  go_wp2_with fail
  refine Calls.mono (HBEG.out _ hW) ?_
  rintro e w1 ⟨v1, rfl, hown1, hb1, _⟩
  have hb01 : Below w.heap.size w w1 := hW.trans (hb1.mono (by simp))
  have hx1 := (hb1.cell (p := ⟨w.heap.size, 0, none⟩) (by simp)).trans HX.out.1
  have hx2 := (hb1.cell (p := ⟨w.heap.size, 1, none⟩) (by simp)).trans HX.out.2
  have hz1 : w.heap.size + 1 ≤ w1.heap.size := by have := hb1.size; simpa using this
  clear hown1 hb1 HX
  by_cases hw : wrong f = 0
  · have hw' : (wrong f == 0) = true := by simp [hw]
    have HW := Lib.hid hw
    clear hw
    by_cases hfar : 100 < n ∨ 60 < n1 + n2
    · go_wp2_with fail
      refine (far_yes _ _ _ _ _ _ _ _ _ _ hfar hl1 hl2).mono ?_
      rintro e w2 ⟨rfl, hb2⟩
      go_wp2_with fail
      refine (lives_any _).mono ?_
      rintro e w3 ⟨rfl, hb3⟩
      have hz2 := hb2.size
      go_wp2
      go_ret
      exact ⟨rfl, (hb01.trans (hb2.mono (by omega))).trans (hb3.mono (by omega))⟩
    · go_wp2_with fail
      refine (far_no _ _ _ _ _ _ _ _ _ _ (by omega) (by omega)).mono ?_
      rintro e w2 ⟨rfl, hb2⟩
      have hz2 := hb2.size
      have hb02 := hb01.trans (hb2.mono (show w.heap.size ≤ w1.heap.size by omega))
      have hy1 := (hb2.cell (p := ⟨w.heap.size, 0, none⟩) (show w.heap.size < w1.heap.size by omega)).trans hx1
      have hy2 := (hb2.cell (p := ⟨w.heap.size, 1, none⟩) (show w.heap.size < w1.heap.size by omega)).trans hx2
      by_cases h0 : n2 = 0
      · subst h0
        have hd : (((0 : Nat) : Int) == 0) = true := by decide
        go_wp2_with fail
        refine (lives_any _).mono ?_
        rintro e w3 ⟨rfl, hb3⟩
        go_wp2
        go_ret
        exact ⟨rfl, hb02.trans (hb3.mono (by omega))⟩
      · have hd : ((n2 : Int) == 0) = false := beq_eq_false_iff_ne.2 (by omega)
        have hlo : lo ≠ [] := by intro e; have := HN2.out; rw [e] at this; simp at this; omega
        have f1 := holds_form (st := st) HW.out hlo true
        have f2 := holds_form (st := st) HW.out hlo false
        simp only [if_true, Bool.false_eq_true, if_false] at f1 f2
        have t1 := formL_len f true
        have t2 := formL_len f false
        rw [← HN.out] at t1 t2
        have hH := fun (w' : World) (hb : Below w.heap.size w w') => Holds_any A A1 A2 n c n1 c1 n2 c2 f st lo w' w.heap.size w.heap.size w.heap.size HN.out HN1.out HN2.out (hf.below hb (Nat.le_refl _)) (h1.below hb (Nat.le_refl _)) (h2.below hb (Nat.le_refl _)) hb.size hb.size hb.size (by omega) (by omega)
        have hHT := fun (w' : World) (hb : Below w.heap.size w w') (A' : Option Addr) (c' : Nat) (hs : Sl w' w'.heap.size 2 A' (formL f true).length c' (ncells (formL f true))) => Holds_any A' A1 A2 (formL f true).length c' n1 c1 n2 c2 (formL f true) st lo w' w'.heap.size w.heap.size w.heap.size rfl HN1.out HN2.out hs (h1.below hb (Nat.le_refl _)) (h2.below hb (Nat.le_refl _)) (Nat.le_refl _) hb.size hb.size (by omega) (by omega)
        have hHF := fun (w' : World) (hb : Below w.heap.size w w') (A' : Option Addr) (c' : Nat) (hs : Sl w' w'.heap.size 2 A' (formL f false).length c' (ncells (formL f false))) => Holds_any A' A1 A2 (formL f false).length c' n1 c1 n2 c2 (formL f false) st lo w' w'.heap.size w.heap.size w.heap.size rfl HN1.out HN2.out hs (h1.below hb (Nat.le_refl _)) (h2.below hb (Nat.le_refl _)) (Nat.le_refl _) hb.size hb.size (by omega) (by omega)
        have hOF := fun (w' : World) (hb : Below w.heap.size w w') => Of_any A c f w' w.heap.size (by rw [← HN.out]; exact hf.below hb (Nat.le_refl _)) hb.size (by rw [← HN.out]; omega)
        have hDF := fun (w' : World) (hb : Below w.heap.size w w') => Dual_any A c f w' w.heap.size (by rw [← HN.out]; exact hf.below hb (Nat.le_refl _)) hb.size (by rw [← HN.out]; omega)
        rw [← HN.out] at hOF hDF
        rw [f1] at hHT
        rw [f2] at hHF
        generalize holdsL f st lo = b at *
        generalize formL f true = fa at *
        generalize formL f false = fb at *
        have HH := Lib.hid hH
        have HHT := Lib.hid hHT
        have HHF := Lib.hid hHF
        have HOF := Lib.hid hOF
        have HDF := Lib.hid hDF
        clear hH hHT hHF hOF hDF f1 f2 hx1 hx2 t1 t2
        go_wp2_with fail
        refine Calls.mono (HH.out _ hb02) ?_
        rintro e w3 ⟨rfl, hb3⟩
        have hb03 := hb02.trans (hb3.mono (by omega))
        have hz3 := hb3.size
        have hc1 := (hb3.cell (p := ⟨w.heap.size, 0, none⟩) (show w.heap.size < w2.heap.size by omega)).trans hy1
        have hc2 := (hb3.cell (p := ⟨w.heap.size, 1, none⟩) (show w.heap.size < w2.heap.size by omega)).trans hy2
        clear hy1 hy2
        have hb03' : Below w.heap.size w w3.drew := hb03.drew
        cases b
        all_goals
          go_wp2_with fail
          go_region_held3 (fun w' => w'.cell? ⟨w.heap.size, 0, none⟩ = some (.slice A1 n1 c1) ∧ w'.cell? ⟨w.heap.size, 1, none⟩ = some (.slice A2 n2 c2))
            (go_keep)
            (first
              | (go_at_call 20; refine Calls.mono (HOF.out _ hb03') ?_; rintro e w4 ⟨v4, rfl, hown4, hb4, _⟩; (obtain ⟨A4, c4, rfl, hs4⟩ := own_sl hown4); have hz4 : w3.heap.size ≤ w4.heap.size := hb4.size; have hb04 := hb03'.trans (hb4.mono (by simp; omega)); have hd1 := (hb4.cell (p := ⟨w.heap.size, 0, none⟩) (show w.heap.size < w3.heap.size by omega)).trans hc1; have hd2 := (hb4.cell (p := ⟨w.heap.size, 1, none⟩) (show w.heap.size < w3.heap.size by omega)).trans hc2)
              | (go_at_call_of 25 fa.length; refine Calls.mono (HHT.out _ hb04 _ _ hs4) ?_; rintro e w5 ⟨rfl, hb5⟩; have hz5 := hb5.size; have hb05 := hb04.trans (hb5.mono (by omega)); have he1 := (hb5.cell (p := ⟨w.heap.size, 0, none⟩) (show w.heap.size < w4.heap.size by omega)).trans hd1; have he2 := (hb5.cell (p := ⟨w.heap.size, 1, none⟩) (show w.heap.size < w4.heap.size by omega)).trans hd2)
              | (go_at_call 23; refine Calls.mono (HDF.out _ hb05) ?_; rintro e w6 ⟨v6, rfl, hown6, hb6, _⟩; (obtain ⟨A6, c6, rfl, hs6⟩ := own_sl hown6); have hz6 := hb6.size; have hb06 := hb05.trans (hb6.mono (by omega)); have hg1 := (hb6.cell (p := ⟨w.heap.size, 0, none⟩) (show w.heap.size < w5.heap.size by omega)).trans he1; have hg2 := (hb6.cell (p := ⟨w.heap.size, 1, none⟩) (show w.heap.size < w5.heap.size by omega)).trans he2)
              | (go_at_call_of 25 fb.length; refine Calls.mono (HHF.out _ hb06 _ _ hs6) ?_; rintro e w7 ⟨rfl, hb7⟩; have hz7 := hb7.size; have hb07 := hb06.trans (hb7.mono (by omega)); have hi1 := (hb7.cell (p := ⟨w.heap.size, 0, none⟩) (show w.heap.size < w6.heap.size by omega)).trans hg1; have hi2 := (hb7.cell (p := ⟨w.heap.size, 1, none⟩) (show w.heap.size < w6.heap.size by omega)).trans hg2)
              | (go_at_call 14; refine (lives_any _).mono ?_; rintro e w8 ⟨rfl, hb8⟩; have hb08 := hb07.trans (hb8.mono (by omega)); have hj1 := (hb8.cell (p := ⟨w.heap.size, 0, none⟩) (show w.heap.size < w7.heap.size by omega)).trans hi1; have hj2 := (hb8.cell (p := ⟨w.heap.size, 1, none⟩) (show w.heap.size < w7.heap.size by omega)).trans hi2))
          go_wp2
          go_ret
          exact ⟨rfl, hb08⟩
  · have hw' : (wrong f == 0) = false := by simpa using hw
    clear hw
    go_wp2_with fail
    refine (lives_any _).mono ?_
    rintro e w3 ⟨rfl, hb3⟩
    go_wp2
    go_ret
    exact ⟨rfl, hb01.trans (hb3.mono (by omega))⟩
end Go.Proofs.Ytedohmcnjlhdnaa
