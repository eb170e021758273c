/- TableauOf. -/
import Derived.Test.YtamhjgkigjpbhaaDoorMr
import Derived.Test.YtamhjgkigjpbhaaDoorAr2
import Derived.Test.YtamhjgkigjpbhaaDoorMo
import Derived.Test.YtamhjgkigjpbhaaDoorMk
namespace Go.Proofs.YtamhjgkigjpbhaaDoor
open Go.RowKit Go.Maps

theorem firstL_le {f : List Nd} {L : List Cov} {rows : List (List Nat)} (hN : isN f = true) (ht : tabL f = some (L, rows)) : TabInv f L rows ∧ (firstL f).length ≤ L.length := by
  have ht0 := ht
  unfold tabL at ht
  split at ht
  · cases ht
  · obtain ⟨hi, _⟩ := tabIt_inv hN _ _ _ (firstL_inv hN (isN_pos hN)) L rows ht
    obtain ⟨m, hm⟩ := hi.first
    exact ⟨hi, by rw [hm, List.length_append]; omega⟩
theorem ofA_lens {f : List Nd} (h13 : isN f = true → f.length ≤ 13) : (ofA f).nodes.length ≤ 100000 ∧ (ofA f).init.length ≤ 1000000 ∧ ∀ x ∈ (ofA f).nodes, x.to.length ≤ 1000000 := by
  by_cases hE : ofE f = 0
  · obtain ⟨L, rows, hN, _, htab, hA⟩ := of_good hE
    have hsc := (tab_scan htab).2
    obtain ⟨hi, hf⟩ := firstL_le hN htab
    rw [hA]
    refine ⟨by rw [tabA_len]; omega, by simp [tabA, natI]; omega, fun x hx => ?_⟩
    obtain ⟨k, hk, rfl⟩ := List.mem_iff_getElem.1 hx
    obtain ⟨c, hc, hxe⟩ := tab_node (List.getElem?_eq_getElem hk)
    rw [hxe]
    show (natI (rows.getD k [])).length ≤ _
    have hT := tab_ok hN (isN_pos hN) htab
    have hkr : k < rows.length := by rw [hT.len]; exact (List.getElem?_eq_some_iff.1 hc).1
    rw [(hi.row k c hkr hc).1]
    have hl1 := next_ltC hN (hi.cov c (List.mem_of_getElem? hc))
    have := (cov_facts hN (h13 hN) hl1).2.2
    simp [natI, rowL]; omega
  · rw [ofA_bad hE]; exact ⟨by simp, by simp, fun x hx => by simp at hx⟩
set_option maxHeartbeats 4000000 in
set_option maxRecDepth 100000 in
theorem same29_any (a : Aut) (Ai : Option Addr) (ni ci : Nat) (An : Option Addr) (nn cn : Nat) (Di : Option Addr) (mi di : Nat) (Dn : Option Addr) (mn dn : Nat) (w : World) (B : Nat) (h1 : AutRd w B a Ai ni ci An nn cn) (h2 : AutRd w B a Di mi di Dn mn dn) (hB : B ≤ w.heap.size)
    (hlN : a.nodes.length ≤ 100000) (hlI : a.init.length ≤ 1000000) (hlT : ∀ x ∈ a.nodes, x.to.length ≤ 1000000) :
    Calls Tryd.prog 11 #[.agg #[.int .i64 a.sets, .slice Ai ni ci, .slice An nn cn], .agg #[.int .i64 a.sets, .slice Di mi di, .slice Dn mn dn]] w (Tru w true) := by
  obtain ⟨s, hs⟩ : ∃ s, a.sets = s := ⟨_, rfl⟩
  obtain ⟨hb0, x0, y0, z0⟩ := box5 w (.cells #[.int .i64 s, .slice Ai ni ci, .slice An nn cn] 28) (.cells #[.int .i64 s, .slice Di mi di, .slice Dn mn dn] 28)
  obtain ⟨W0, hW0⟩ : ∃ W0, (w.alloc (.cells #[.int .i64 s, .slice Ai ni ci, .slice An nn cn] 28)).alloc (.cells #[.int .i64 s, .slice Di mi di, .slice Dn mn dn] 28) = W0 := ⟨_, rfl⟩
  rw [hW0] at hb0 x0 y0 z0
  have HS := sameA_any a Ai ni ci An nn cn Di mi di Dn mn dn W0 B (h1.below hb0 hB) (h2.below hb0 hB) (by omega) hlN hlI hlT
  rw [hs] at HS ⊢
  have HS := Lib.hid HS
  have HW0 := Lib.hid hW0
  clear hW0 hs h1 h2 x0 y0
  go_enter Tryd.func11, Tryd.ntmps11
  go_wp2_with fail
  rw [HW0.out]
  refine Calls.mono HS.out ?_
  rintro e w1 ⟨rfl, hb1⟩
  go_wp2_with fail
  go_ret
  exact ⟨rfl, hb0.trans (hb1.mono (by omega))⟩
set_option maxHeartbeats 4000000 in
set_option maxRecDepth 100000 in
theorem TableauOf_any (A : Option Addr) (c : Nat) (f : List Nd) (w : World) (hf : Sl w w.heap.size 2 A f.length c (ncells f)) (hT : TzTab w) (hl : f.length ≤ 8796093022208) :
    Calls Tryd.prog 3 #[.slice A f.length c] w (Tru w true) := by
  have HW := Lib.hid (fun (w' : World) (hb : Below w.heap.size w w') => works29_any w' (tz_below hT hb))
  have HI := Lib.hid (IsR_any A c f w w.heap.size hf (Nat.le_refl _) hl)
  have HT := Lib.hid hT
  have HF := Lib.hid hf
  clear hT hf
  by_cases h13 : 13 < f.length
  · have g13 : (13 : Int) < (f.length : Int) := by omega
    cases hN : isN f
    · rw [hN] at HI
      have HN := Lib.hid hN
      clear hN
      by_cases h100 : 100 < f.length
      · have g100 : (100 : Int) < (f.length : Int) := by omega
        go_enter Tryd.func3, Tryd.ntmps3
        go_wp2_with fail
        refine Calls.mono HI.out ?_
        rintro e w1 ⟨rfl, hb1⟩
        go_wp2_with fail
        refine Calls.mono (HW.out w1 hb1) ?_
        rintro e w2 ⟨rfl, hb2⟩
        go_wp2_with fail
        go_ret
        exact ⟨rfl, hb1.trans (hb2.mono hb1.size)⟩
      · have g100 : ¬ (100 : Int) < (f.length : Int) := by omega
        have hl3 := ofA_lens (f := f) (fun h => by rw [HN.out] at h; cases h)
        have hq : isN f = true → f.length ≤ 50 → (untils f).length ≤ 16 → f.length ≤ 13 := fun h => by rw [HN.out] at h; cases h
        go_enter Tryd.func3, Tryd.ntmps3
        go_wp2_with fail
        refine Calls.mono HI.out ?_
        rintro e w1 ⟨rfl, hb1⟩
        have HO := Lib.hid (tabOf_any A c f w1 ((HF.out.below hb1 (Nat.le_refl _)).up hb1.size) (tz_below HT.out hb1) (by omega) hq)
        have HL3 := Lib.hid hl3
        have HQ := Lib.hid hq
        clear hl3 hq
        go_wp2_with fail
        refine Calls.mono HO.out ?_
        rintro e w2 ⟨Ai, ni, ci, An, nn, cn, rfl, hr1, hb2⟩
        have hb02 : Below w.heap.size w w2 := hb1.trans (hb2.mono hb1.size)
        obtain ⟨a, hae⟩ : ∃ a, ofA f = a := ⟨_, rfl⟩
        obtain ⟨E, hEe⟩ : ∃ E, ofE f = E := ⟨_, rfl⟩
        rw [hae, hEe]
        rw [hae] at hr1
        have hb3 : Below w2.heap.size w2 (w2.alloc (.cells #[.int .i64 a.sets, .slice Ai ni ci, .slice An nn cn] 28)) := (Below.refl _ _).alloc (Nat.le_refl _) _
        have hx3 := heap_alloc_new w2 (.cells #[.int .i64 a.sets, .slice Ai ni ci, .slice An nn cn] 28)
        obtain ⟨W3, hW3⟩ : ∃ W3, w2.alloc (.cells #[.int .i64 a.sets, .slice Ai ni ci, .slice An nn cn] 28) = W3 := ⟨_, rfl⟩
        have hz3 : W3.heap.size = w2.heap.size + 1 := by rw [← hW3]; simp
        rw [hW3] at hb3 hx3
        have HW3 := Lib.hid hW3
        have hb03 : Below w.heap.size w W3 := hb02.trans (hb3.mono hb02.size)
        have HO2 := tabOfR_any A c f W3 ((HF.out.below hb03 (Nat.le_refl _)).up hb03.size) (by omega) HQ.out
        rw [hae, hEe] at HO2
        have HO2 := Lib.hid HO2
        have HL := HL3.out
        rw [hae] at HL
        have HR1 := Lib.hid (hr1.below hb3 (Nat.le_refl _))
        clear hW3 hae hEe HL3 hr1
        go_wp2_with fail
        rw [HW3.out]
        refine Calls.mono HO2.out ?_
        rintro e w4 ⟨Di, mi, di, Dn, mn, dn, rfl, hr2, hb4⟩
        have hb04 : Below w.heap.size w w4 := hb03.trans (hb4.mono hb03.size)
        have hx4 := (hb4.block w2.heap.size (by omega)).trans hx3
        obtain ⟨k0, k1, k2⟩ := box3A hx4
        have hb5 : Below w4.heap.size w4 (w4.alloc (.cells #[.int .i64 a.sets, .slice Di mi di, .slice Dn mn dn] 28)) := (Below.refl _ _).alloc (Nat.le_refl _) _
        have hz45 : w2.heap.size < w4.heap.size := by have := hb4.size; omega
        have HSM := Lib.hid (same29_any a Ai ni ci An nn cn Di mi di Dn mn dn (w4.alloc (.cells #[.int .i64 a.sets, .slice Di mi di, .slice Dn mn dn] 28)) (w4.heap.size + 1) (((HR1.out.below hb4 (by omega)).below hb5 (by omega)).up (by omega)) ((hr2.below hb5 (Nat.le_refl _)).up (by omega)) (by simp) HL.1 HL.2.1 HL.2.2)
        clear hx4 hx3 hr2
        go_wp2_with fail
        refine Calls.mono HSM.out ?_
        rintro e w6 ⟨rfl, hb6⟩
        have hb05 := hb04.trans (hb5.mono hb04.size)
        have hb06 := hb05.trans (hb6.mono hb05.size)
        go_wp2_with fail
        refine Calls.mono (HW.out w6 hb06) ?_
        rintro e w7 ⟨rfl, hb7⟩
        go_wp2_with fail
        go_ret
        exact ⟨rfl, hb06.trans (hb7.mono hb06.size)⟩
    · rw [hN] at HI
      clear hN
      go_enter Tryd.func3, Tryd.ntmps3
      go_wp2_with fail
      refine Calls.mono HI.out ?_
      rintro e w1 ⟨rfl, hb1⟩
      go_wp2_with fail
      refine Calls.mono (HW.out w1 hb1) ?_
      rintro e w2 ⟨rfl, hb2⟩
      go_wp2_with fail
      go_ret
      exact ⟨rfl, hb1.trans (hb2.mono hb1.size)⟩
  · have g13 : ¬ (13 : Int) < (f.length : Int) := by omega
    have g100 : ¬ (100 : Int) < (f.length : Int) := by omega
    have hl3 := ofA_lens (f := f) (fun h => by omega)
    have hq : isN f = true → f.length ≤ 50 → (untils f).length ≤ 16 → f.length ≤ 13 := fun _ _ _ => by omega
    go_enter Tryd.func3, Tryd.ntmps3
    have hb1 : Below w.heap.size w w := Below.refl _ _
    have HO := Lib.hid (tabOf_any A c f w ((HF.out.below hb1 (Nat.le_refl _)).up hb1.size) (tz_below HT.out hb1) (by omega) hq)
    have HL3 := Lib.hid hl3
    have HQ := Lib.hid hq
    clear hl3 hq
    go_wp2_with fail
    refine Calls.mono HO.out ?_
    rintro e w2 ⟨Ai, ni, ci, An, nn, cn, rfl, hr1, hb2⟩
    have hb02 : Below w.heap.size w w2 := hb1.trans (hb2.mono hb1.size)
    obtain ⟨a, hae⟩ : ∃ a, ofA f = a := ⟨_, rfl⟩
    obtain ⟨E, hEe⟩ : ∃ E, ofE f = E := ⟨_, rfl⟩
    rw [hae, hEe]
    rw [hae] at hr1
    have hb3 : Below w2.heap.size w2 (w2.alloc (.cells #[.int .i64 a.sets, .slice Ai ni ci, .slice An nn cn] 28)) := (Below.refl _ _).alloc (Nat.le_refl _) _
    have hx3 := heap_alloc_new w2 (.cells #[.int .i64 a.sets, .slice Ai ni ci, .slice An nn cn] 28)
    obtain ⟨W3, hW3⟩ : ∃ W3, w2.alloc (.cells #[.int .i64 a.sets, .slice Ai ni ci, .slice An nn cn] 28) = W3 := ⟨_, rfl⟩
    have hz3 : W3.heap.size = w2.heap.size + 1 := by rw [← hW3]; simp
    rw [hW3] at hb3 hx3
    have HW3 := Lib.hid hW3
    have hb03 : Below w.heap.size w W3 := hb02.trans (hb3.mono hb02.size)
    have HO2 := tabOfR_any A c f W3 ((HF.out.below hb03 (Nat.le_refl _)).up hb03.size) (by omega) HQ.out
    rw [hae, hEe] at HO2
    have HO2 := Lib.hid HO2
    have HL := HL3.out
    rw [hae] at HL
    have HR1 := Lib.hid (hr1.below hb3 (Nat.le_refl _))
    clear hW3 hae hEe HL3 hr1
    go_wp2_with fail
    rw [HW3.out]
    refine Calls.mono HO2.out ?_
    rintro e w4 ⟨Di, mi, di, Dn, mn, dn, rfl, hr2, hb4⟩
    have hb04 : Below w.heap.size w w4 := hb03.trans (hb4.mono hb03.size)
    have hx4 := (hb4.block w2.heap.size (by omega)).trans hx3
    obtain ⟨k0, k1, k2⟩ := box3A hx4
    have hb5 : Below w4.heap.size w4 (w4.alloc (.cells #[.int .i64 a.sets, .slice Di mi di, .slice Dn mn dn] 28)) := (Below.refl _ _).alloc (Nat.le_refl _) _
    have hz45 : w2.heap.size < w4.heap.size := by have := hb4.size; omega
    have HSM := Lib.hid (same29_any a Ai ni ci An nn cn Di mi di Dn mn dn (w4.alloc (.cells #[.int .i64 a.sets, .slice Di mi di, .slice Dn mn dn] 28)) (w4.heap.size + 1) (((HR1.out.below hb4 (by omega)).below hb5 (by omega)).up (by omega)) ((hr2.below hb5 (Nat.le_refl _)).up (by omega)) (by simp) HL.1 HL.2.1 HL.2.2)
    clear hx4 hx3 hr2
    go_wp2_with fail
    refine Calls.mono HSM.out ?_
    rintro e w6 ⟨rfl, hb6⟩
    have hb05 := hb04.trans (hb5.mono hb04.size)
    have hb06 := hb05.trans (hb6.mono hb05.size)
    go_wp2_with fail
    refine Calls.mono (HW.out w6 hb06) ?_
    rintro e w7 ⟨rfl, hb7⟩
    go_wp2_with fail
    go_ret
    exact ⟨rfl, hb06.trans (hb7.mono hb06.size)⟩
end Go.Proofs.YtamhjgkigjpbhaaDoor
