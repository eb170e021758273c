/- The walk of the law NnfPlaces. -/
import Derived.Test.YtedohmcnjlhdnaaL25b
import Derived.Deep.DeepCutAuto
import Derived.IntWalk
namespace Go.Proofs.Ytedohmcnjlhdnaa
open Go.RowKit

theorem val_form {f : List Nd} {st lo : List Int} (hw : wrong f = 0) (h : lo ≠ []) : val (bitsOf (st ++ lo)) (st.length + lo.length) st.length (treeOf (formL f true)) = val (bitsOf (st ++ lo)) (st.length + lo.length) st.length (treeOf f) := by
  obtain ⟨hok, hfl⟩ := treeOf_ok hw
  have hlo : 0 < lo.length := List.length_pos_iff.2 h
  have e : treeOf (formL f true) = nn (treeOf f) true := by rw [formL, if_pos hw, treeOf_flat (nn_ok _ _ hok).1]
  rw [e, val_nn (by omega) (treeOf f) true hok, if_pos rfl]

theorem below_undrewN {B m : Nat} {w w' : World} (h : Below B (w.drewN m) w') : Below B w w' := ⟨h.os, h.tape, h.output, h.size, h.block⟩

/-- What the two calls leave: the rows of both formulas. -/
def TwoGrids (w : World) (x1 x2 : Value) (R1 R2 : List (List Bool)) (a b : Value) (w' : World) : Prop :=
  ∃ wa wb, Grid wa w' a R1 ∧ Grid wb w' b R2 ∧ Below w.heap.size w w' ∧ w'.cell? ⟨w.heap.size, 0, none⟩ = some x1 ∧ w'.cell? ⟨w.heap.size, 1, none⟩ = some x2

set_option maxHeartbeats 4000000 in
theorem NnfPlaces_any (A A1 A2 : Option Addr) (n c n1 c1 n2 c2 : Nat) (f : List Nd) (st lo : List Int) (w : World) (hn : n = f.length) (hn1 : n1 = st.length) (hn2 : n2 = lo.length)
    (hf : Sl w w.heap.size 2 A n c (ncells f)) (h1 : Sl w w.heap.size 1 A1 n1 c1 (ucells st)) (h2 : Sl w w.heap.size 1 A2 n2 c2 (ucells lo)) (hl : n ≤ 8796093022208) (hl1 : n1 ≤ 17592186044416) (hl2 : n2 ≤ 17592186044416) :
    Calls Try.prog 4 #[.slice A n c, .agg #[.slice A1 n1 c1, .slice A2 n2 c2]] w (Tru w true) := by
  have HN := Lib.hid hn
  have HN1 := Lib.hid hn1
  have HN2 := Lib.hid hn2
  clear hn1 hn2
  have hBeg := fun (w' : World) (hb : Below w.heap.size w w') => Begins_any A c f w' w.heap.size (by rw [← hn]; exact hf.below hb (Nat.le_refl _)) hb.size (by omega)
  rw [← hn] at hBeg
  have HBEG := Lib.hid hBeg
  clear hBeg hn
  have hW : Below w.heap.size w (w.alloc (.cells #[.slice A1 n1 c1, .slice A2 n2 c2] 27)) := (Below.refl _ _).alloc (Nat.le_refl _) _
  have hx : (w.alloc (.cells #[.slice A1 n1 c1, .slice A2 n2 c2] 27)).cell? ⟨w.heap.size, 0, none⟩ = some (.slice A1 n1 c1) ∧ (w.alloc (.cells #[.slice A1 n1 c1, .slice A2 n2 c2] 27)).cell? ⟨w.heap.size, 1, none⟩ = some (.slice A2 n2 c2) :=
    ⟨by rw [cell_of_row _ _ _ _ _ _ (heap_alloc_new w _)]; rfl, by rw [cell_of_row _ _ _ _ _ _ (heap_alloc_new w _)]; rfl⟩
  have HX := Lib.hid hx
  clear hx
  go_enter Try.func4, Try.ntmps4
  go_wp2_with fail
  refine Calls.mono (HBEG.out _ hW) ?_
  rintro e w1 ⟨v1, rfl, hown1, hb1, _⟩
  have hb01 : Below w.heap.size w w1 := hW.trans (hb1.mono (by simp))
  have hx1 := (hb1.cell (p := ⟨w.heap.size, 0, none⟩) (by simp)).trans HX.out.1
  have hx2 := (hb1.cell (p := ⟨w.heap.size, 1, none⟩) (by simp)).trans HX.out.2
  have hz1 : w.heap.size + 1 ≤ w1.heap.size := by have := hb1.size; simpa using this
  clear hown1 hb1 HX
  by_cases hw : wrong f = 0
  · have hw' : (wrong f == 0) = true := by simp [hw]
    have HW := Lib.hid hw
    clear hw
    by_cases hfar : 100 < n ∨ 60 < n1 + n2
    · go_wp2_with fail
      refine (far_yes _ _ _ _ _ _ _ _ _ _ hfar hl1 hl2).mono ?_
      rintro e w2 ⟨rfl, hb2⟩
      go_wp2_with fail
      refine (lives_any _).mono ?_
      rintro e w3 ⟨rfl, hb3⟩
      have hz2 := hb2.size
      go_wp2
      go_ret
      exact ⟨rfl, (hb01.trans (hb2.mono (by omega))).trans (hb3.mono (by omega))⟩
    · go_wp2_with fail
      refine (far_no _ _ _ _ _ _ _ _ _ _ (by omega) (by omega)).mono ?_
      rintro e w2 ⟨rfl, hb2⟩
      have hz2 := hb2.size
      have hb02 := hb01.trans (hb2.mono (show w.heap.size ≤ w1.heap.size by omega))
      have hy1 := (hb2.cell (p := ⟨w.heap.size, 0, none⟩) (show w.heap.size < w1.heap.size by omega)).trans hx1
      have hy2 := (hb2.cell (p := ⟨w.heap.size, 1, none⟩) (show w.heap.size < w1.heap.size by omega)).trans hx2
      by_cases h0 : n2 = 0
      · subst h0
        have hd : (((0 : Nat) : Int) == 0) = true := by decide
        go_wp2_with fail
        refine (lives_any _).mono ?_
        rintro e w3 ⟨rfl, hb3⟩
        go_wp2
        go_ret
        exact ⟨rfl, hb02.trans (hb3.mono (by omega))⟩
      · have hd : ((n2 : Int) == 0) = false := beq_eq_false_iff_ne.2 (by omega)
        have hlo : lo ≠ [] := by intro e; have := HN2.out; rw [e] at this; simp at this; omega
        obtain ⟨p1, p2, p3, p4⟩ := truthsL_some (st := st) HW.out hlo
        obtain ⟨q1, q2, q3, q4⟩ := truthsL_some (st := st) (formL_good HW.out true).1 hlo
        have hlo2 : 0 < lo.length := List.length_pos_iff.2 hlo
        have hvl := val_form (st := st) HW.out hlo
        rw [hvl] at q3 q4
        have t1 := formL_len f true
        rw [← HN.out] at t1
        have hT := fun (w' : World) (hb : Below w.heap.size w w') => Truths_any A A1 A2 n c n1 c1 n2 c2 f st lo w' w.heap.size w.heap.size w.heap.size HN.out HN1.out HN2.out (hf.below hb (Nat.le_refl _)) (h1.below hb (Nat.le_refl _)) (h2.below hb (Nat.le_refl _)) hb.size hb.size hb.size (by omega) (by omega)
        have hTT := fun (w' : World) (hb : Below w.heap.size w w') (B' : Nat) (A' : Option Addr) (c' : Nat) (hs : Sl w' B' 2 A' (formL f true).length c' (ncells (formL f true))) (hB' : B' ≤ w'.heap.size) => Truths_any A' A1 A2 (formL f true).length c' n1 c1 n2 c2 (formL f true) st lo w' B' w.heap.size w.heap.size rfl HN1.out HN2.out hs (h1.below hb (Nat.le_refl _)) (h2.below hb (Nat.le_refl _)) hB' hb.size hb.size (by omega) (by omega)
        have hOF := fun (w' : World) (hb : Below w.heap.size w w') => Of_any A c f w' w.heap.size (by rw [← HN.out]; exact hf.below hb (Nat.le_refl _)) hb.size (by rw [← HN.out]; omega)
        rw [← HN.out] at hOF
        generalize val (bitsOf (st ++ lo)) (st.length + lo.length) st.length (treeOf f) = r at *
        generalize truthsL f st lo = R1 at *
        generalize truthsL (formL f true) st lo = R2 at *
        generalize formL f true = fa at *
        rw [← p2] at p3
        rw [← q2] at q3
        have hrl : r.length = n1 + n2 := by rw [p4, HN1.out, HN2.out]
        have HRL := Lib.hid hrl
        have hR1 : 0 < R1.length := by omega
        have hR2 : 0 < R2.length := by omega
        have hR1b : R1.length ≤ 100 := by rw [p2, ← HN.out]; omega
        have hR2b : R2.length ≤ 200 := by omega
        have HT := Lib.hid hT
        have HTT := Lib.hid hTT
        have HOF := Lib.hid hOF
        have P3 := Lib.hid p3
        have Q3 := Lib.hid q3
        clear hT hTT hOF p1 p2 p3 q1 q2 q3 q4 hvl hx1 hx2 t1 p4 hrl
        have hb02' : Below w.heap.size w w2.drew := hb02.drew
        go_upto_region 4 with fail
        go_cut [7, 8] from 9 (fun a b wx => TwoGrids w (.slice A1 n1 c1) (.slice A2 n2 c2) R1 R2 a b wx)
        case first =>
          go_region_held3 (fun w' => w'.cell? ⟨w.heap.size, 0, none⟩ = some (.slice A1 n1 c1) ∧ w'.cell? ⟨w.heap.size, 1, none⟩ = some (.slice A2 n2 c2))
            (go_keep)
            (first
              | (go_at_call 20; refine Calls.mono (HOF.out _ (by first | exact hb02' | exact hb0T)) ?_; rintro e w4 ⟨v4, rfl, hown4, hb4, _⟩; (obtain ⟨A4, c4, rfl, hs4⟩ := own_sl hown4)
                 have hb04 : Below w.heap.size w w4 := (by first | exact hb02'.trans (hb4.mono (by simp; omega)) | exact hb0T.trans (hb4.mono (by omega)))
                 have hz4 : w2.heap.size ≤ w4.heap.size := (by first | exact hb4.size | exact Nat.le_trans hzT hb4.size)
                 have hd1 : w4.cell? ⟨w.heap.size, 0, none⟩ = some (.slice A1 n1 c1) := (by first | exact (hb4.cell (p := ⟨w.heap.size, 0, none⟩) (show w.heap.size < w2.heap.size by omega)).trans hy1 | exact (hb4.cell (p := ⟨w.heap.size, 0, none⟩) (show w.heap.size < wT.heap.size by omega)).trans hT1)
                 have hd2 : w4.cell? ⟨w.heap.size, 1, none⟩ = some (.slice A2 n2 c2) := (by first | exact (hb4.cell (p := ⟨w.heap.size, 1, none⟩) (show w.heap.size < w2.heap.size by omega)).trans hy2 | exact (hb4.cell (p := ⟨w.heap.size, 1, none⟩) (show w.heap.size < wT.heap.size by omega)).trans hT2)
                 try have hGa4 := hGa.below hb4)
              | (go_at_call_of 19 fa.length; refine Calls.mono (HTT.out _ (by first | exact hb04 | exact hb0T) _ _ _ (by first | exact hs4 | exact hs4T) (by first | exact Nat.le_refl _ | exact hz4T)) ?_; rintro e w5 ⟨v5, rfl, hGb⟩
                 have hb5 := hGb.choose_spec.2.2
                 have hb05 : Below w.heap.size w w5 := (by first | exact hb04.trans (hb5.mono (by omega)) | exact hb0T.trans (hb5.mono (by omega)))
                 have hz5 : w2.heap.size ≤ w5.heap.size := (by first | exact Nat.le_trans hz4 hb5.size | exact Nat.le_trans hzT hb5.size)
                 have he1 : w5.cell? ⟨w.heap.size, 0, none⟩ = some (.slice A1 n1 c1) := (by first | exact (hb5.cell (p := ⟨w.heap.size, 0, none⟩) (show w.heap.size < w4.heap.size by omega)).trans hd1 | exact (hb5.cell (p := ⟨w.heap.size, 0, none⟩) (show w.heap.size < wT.heap.size by omega)).trans hT1)
                 have he2 : w5.cell? ⟨w.heap.size, 1, none⟩ = some (.slice A2 n2 c2) := (by first | exact (hb5.cell (p := ⟨w.heap.size, 1, none⟩) (show w.heap.size < w4.heap.size by omega)).trans hd2 | exact (hb5.cell (p := ⟨w.heap.size, 1, none⟩) (show w.heap.size < wT.heap.size by omega)).trans hT2)
                 try first | have hGa5 := hGa4.below hb5 | have hGa5 := hGa.below hb5)
              | (go_at_call_of 19 n; refine Calls.mono (HT.out _ (by first | exact hb02' | exact hb04 | exact hb05)) ?_; rintro e wT ⟨vT, rfl, hGa⟩
                 have hbT := hGa.choose_spec.2.2
                 have hb0T : Below w.heap.size w wT := (by first | exact hb02'.trans (hbT.mono (by simp; omega)) | exact hb04.trans (hbT.mono (by omega)) | exact hb05.trans (hbT.mono (by omega)))
                 have hzT : w2.heap.size ≤ wT.heap.size := (by first | exact hbT.size | exact Nat.le_trans hz4 hbT.size | exact Nat.le_trans hz5 hbT.size)
                 have hT1 : wT.cell? ⟨w.heap.size, 0, none⟩ = some (.slice A1 n1 c1) := (by first | exact (hbT.cell (p := ⟨w.heap.size, 0, none⟩) (show w.heap.size < w2.heap.size by omega)).trans hy1 | exact (hbT.cell (p := ⟨w.heap.size, 0, none⟩) (show w.heap.size < w4.heap.size by omega)).trans hd1 | exact (hbT.cell (p := ⟨w.heap.size, 0, none⟩) (show w.heap.size < w5.heap.size by omega)).trans he1)
                 have hT2 : wT.cell? ⟨w.heap.size, 1, none⟩ = some (.slice A2 n2 c2) := (by first | exact (hbT.cell (p := ⟨w.heap.size, 1, none⟩) (show w.heap.size < w2.heap.size by omega)).trans hy2 | exact (hbT.cell (p := ⟨w.heap.size, 1, none⟩) (show w.heap.size < w4.heap.size by omega)).trans hd2 | exact (hbT.cell (p := ⟨w.heap.size, 1, none⟩) (show w.heap.size < w5.heap.size by omega)).trans he2)
                 try have hs4T := hs4.below hbT (Nat.le_refl _)
                 try have hz4T := hbT.size
                 try have hGbT := hGb.below hbT))
          all_goals
            go_wp2_with fail
            go_meet
            first
              | exact ⟨_, _, hGa5, hGb, hb05, he1, he2⟩
              | exact ⟨_, _, hGa, hGbT, hb0T, hT1, hT2⟩
        case rest =>
          obtain ⟨wa, wb, hGa, hGb, hbc, hx1, hx2⟩ := hcut
          obtain ⟨ga, capa, rfl⟩ := hGa.form hR1
          obtain ⟨gb, capb, rfl⟩ := hGb.form hR2
          obtain ⟨Aa, ca, hca, hsa⟩ := hGa.cellAt P3.out
          obtain ⟨Ab, cb, hcb, hsb⟩ := hGb.cellAt Q3.out
          rw [HRL.out] at hca hcb hsa hsb
          obtain ⟨ja, hja⟩ : ∃ ja, ja + 1 = R1.length := ⟨R1.length - 1, by omega⟩
          obtain ⟨jb, hjb⟩ : ∃ jb, jb + 1 = R2.length := ⟨R2.length - 1, by omega⟩
          rw [show R1.length - 1 = ja by omega] at hca
          rw [show R2.length - 1 = jb by omega] at hcb
          have ha0 : (0 : Int) ≤ (ja : Int) := by omega
          have ha1 : (ja : Int) < (R1.length : Int) := by omega
          have hb0 : (0 : Int) ≤ (jb : Int) := by omega
          have hb1 : (jb : Int) < (R2.length : Int) := by omega
          have sa : IntKind.i64.wrap ((R1.length : Int) - 1) = (ja : Int) := by rw [IntWalk.i64_in _ (by omega)]; omega
          have sb : IntKind.i64.wrap ((R2.length : Int) - 1) = (jb : Int) := by rw [IntWalk.i64_in _ (by omega)]; omega
          have SA := Lib.hid sa
          have SB := Lib.hid sb
          have h12 : 0 < n1 + n2 := by omega
          clear sa sb hja hjb hGa hGb
          go_wp2_with fail
          go_loopw [46] (fun i wr => ∃ k m : Nat, k ≤ n1 + n2 ∧ i = .int .i64 k ∧ wr = wc.drewN m) (fun i _ => n1 + n2 - (intOf i).toNat)
          case atStart => exact ⟨0, 0, by omega, rfl, rfl⟩
          case round =>
            obtain ⟨k, m, hk, rfl, rfl⟩ := hrel
            by_cases hlt : k < n1 + n2
            · have hlr : k < r.length := by rw [HRL.out]; exact hlt
              obtain ⟨b1, o1, rfl, _, hv1⟩ := hsa.rd.at_ (bcells_at hlr)
              obtain ⟨b2, o2, rfl, _, hv2⟩ := hsb.rd.at_ (bcells_at hlr)
              generalize r.getD k false = x at *
              have hk0 : (0 : Int) ≤ (k : Int) := by omega
              have hk1 : (k : Int) < ((n1 + n2 : Nat) : Int) := by omega
              have sa := SA.out
              have sb := SB.out
              have hxx : (x != x) = false := by cases x <;> rfl
              have hxe : (x == x) = true := by cases x <;> rfl
              go_wp2_with fail
              go_quiet (fail)
              go_wp2
              go_roundw
              case rel => exact ⟨k + 1, _, by omega, by go_num, by first | rfl | rw [World.drewN_drewN]⟩
              case measure => simp [intOf]; omega
            · have hkl : k = n1 + n2 := by omega
              subst hkl
              go_wp2_with fail
              refine (lives_any _).mono ?_
              rintro e w3 ⟨rfl, hb3⟩
              go_wp2
              go_ret
              exact ⟨rfl, hbc.trans (below_undrewN (hb3.mono (by have := hbc.size; simp; omega)))⟩
  · have hw' : (wrong f == 0) = false := by simpa using hw
    clear hw
    go_wp2_with fail
    refine (lives_any _).mono ?_
    rintro e w3 ⟨rfl, hb3⟩
    go_wp2
    go_ret
    exact ⟨rfl, hb01.trans (hb3.mono (by omega))⟩
end Go.Proofs.Ytedohmcnjlhdnaa
