/- TableauBounds. -/
import Derived.Test.YtamhjgkigjpbhaaDoorMo
import Derived.Test.YtamhjgkigjpbhaaDoorMk
import Derived.Test.YtamhjgkigjpbhaaDoorR23c
namespace Go.Proofs.YtamhjgkigjpbhaaDoor
open Go.RowKit Go.Maps

set_option maxHeartbeats 4000000 in
set_option maxRecDepth 100000 in
theorem TableauBounds_any (A : Option Addr) (c : Nat) (f : List Nd) (w : World) (hf : Sl w w.heap.size 2 A f.length c (ncells f)) (hT : TzTab w) (_hl : f.length ≤ 8796093022208) :
    Calls Tryd.prog 6 #[.slice A f.length c] w (Tru w true) := by
  have HW := Lib.hid (fun (w' : World) (hb : Below w.heap.size w w') => works29_any w' (tz_below hT hb))
  have HT := Lib.hid hT
  have HF := Lib.hid hf
  clear hT hf
  by_cases h200 : 200 < f.length
  · have g200 : (200 : Int) < (f.length : Int) := by omega
    go_enter Tryd.func6, Tryd.ntmps6
    go_wp2_with fail
    refine Calls.mono (HW.out w (Below.refl _ _)) ?_
    rintro e w1 ⟨rfl, hb1⟩
    go_wp2_with fail
    go_ret
    exact ⟨rfl, hb1⟩
  · have g200 : ¬ (200 : Int) < (f.length : Int) := by omega
    have HI := Lib.hid (fun (w' : World) (hb : Below w.heap.size w w') => IsR_any A c f w' w.heap.size (HF.out.below hb (Nat.le_refl _)) hb.size (by omega))
    have HU := Lib.hid (fun (w' : World) (hb : Below w.heap.size w w') => UntilsR_any A c f w' w.heap.size (HF.out.below hb (Nat.le_refl _)) hb.size (by omega))
    have HO := Lib.hid (fun (w' : World) (hb : Below w.heap.size w w') (hq : isN f = true → f.length ≤ 50 → (untils f).length ≤ 16 → f.length ≤ 13) => tabOf_any A c f w' ((HF.out.below hb (Nat.le_refl _)).up hb.size) (tz_below HT.out hb) (by omega) hq)
    cases hN : isN f
    · rw [hN] at HI
      have HN := Lib.hid hN
      clear hN
      have HE : Hid (ofE f = 3) := Lib.hid (by unfold ofE; rw [if_pos HN.out])
      have HQ : Hid (isN f = true → f.length ≤ 50 → (untils f).length ≤ 16 → f.length ≤ 13) := Lib.hid (fun h => by rw [HN.out] at h; cases h)
      go_enter Tryd.func6, Tryd.ntmps6
      go_wp2_with fail
      refine Calls.mono (HI.out w (Below.refl _ _)) ?_
      rintro e w1 ⟨rfl, hb1⟩
      go_wp2_with fail
      refine Calls.mono (HO.out w1 hb1 HQ.out) ?_
      rintro e w3 ⟨Ai, ni, ci, An, nn, cn, rfl, -, hb3'⟩
      rw [HE.out]
      have hb3 : Below w.heap.size w w3 := hb1.trans (hb3'.mono hb1.size)
      clear hb3'
      obtain ⟨SS, hSS⟩ : ∃ SS, (ofA f).sets = SS := ⟨_, rfl⟩
      rw [hSS]
      have hb4 : Below w.heap.size w (w3.alloc (.cells #[.int .i64 SS, .slice Ai ni ci, .slice An nn cn] 28)) := hb3.alloc hb3.size _
      clear hSS
      go_wp2_with fail
      refine Calls.mono (HI.out _ hb4) ?_
      rintro e w5 ⟨rfl, hb5'⟩
      have hb5 : Below w.heap.size w w5 := hb4.trans (hb5'.mono hb4.size)
      clear hb5'
      go_wp2_with fail
      refine Calls.mono (HW.out _ hb5) ?_
      rintro e w6 ⟨rfl, hb6⟩
      go_wp2_with fail
      go_ret
      exact ⟨rfl, hb5.trans (hb6.mono hb5.size)⟩
    · rw [hN] at HI
      have HN := Lib.hid hN
      clear hN
      by_cases h50 : 50 < f.length
      · have g50 : (50 : Int) < (f.length : Int) := by omega
        have HE : Hid (ofE f = 5) := Lib.hid (by unfold ofE; rw [if_neg (by rw [HN.out]; decide), if_pos h50])
        have HQ : Hid (isN f = true → f.length ≤ 50 → (untils f).length ≤ 16 → f.length ≤ 13) := Lib.hid (fun _ h => by omega)
        go_enter Tryd.func6, Tryd.ntmps6
        go_wp2_with fail
        refine Calls.mono (HI.out w (Below.refl _ _)) ?_
        rintro e w1 ⟨rfl, hb1⟩
        go_wp2_with fail
        refine Calls.mono (HO.out w1 hb1 HQ.out) ?_
        rintro e w3 ⟨Ai, ni, ci, An, nn, cn, rfl, -, hb3'⟩
        rw [HE.out]
        have hb3 : Below w.heap.size w w3 := hb1.trans (hb3'.mono hb1.size)
        clear hb3'
        obtain ⟨SS, hSS⟩ : ∃ SS, (ofA f).sets = SS := ⟨_, rfl⟩
        rw [hSS]
        have hb4 : Below w.heap.size w (w3.alloc (.cells #[.int .i64 SS, .slice Ai ni ci, .slice An nn cn] 28)) := hb3.alloc hb3.size _
        clear hSS
        go_wp2_with fail
        refine Calls.mono (HI.out _ hb4) ?_
        rintro e w5 ⟨rfl, hb5'⟩
        have hb5 : Below w.heap.size w w5 := hb4.trans (hb5'.mono hb4.size)
        clear hb5'
        go_wp2_with fail
        refine Calls.mono (HW.out _ hb5) ?_
        rintro e w6 ⟨rfl, hb6⟩
        go_wp2_with fail
        go_ret
        exact ⟨rfl, hb5.trans (hb6.mono hb5.size)⟩
      · have g50 : ¬ (50 : Int) < (f.length : Int) := by omega
        by_cases h16 : 16 < (untils f).length
        · have g16 : (16 : Int) < ((untils f).length : Int) := by omega
          have HE : Hid (ofE f = 11) := Lib.hid (by unfold ofE; rw [if_neg (by rw [HN.out]; decide), if_neg h50, if_pos h16])
          have HQ : Hid (isN f = true → f.length ≤ 50 → (untils f).length ≤ 16 → f.length ≤ 13) := Lib.hid (fun _ _ h => by omega)
          go_enter Tryd.func6, Tryd.ntmps6
          go_wp2_with fail
          refine Calls.mono (HI.out w (Below.refl _ _)) ?_
          rintro e w1 ⟨rfl, hb1⟩
          go_wp2_with fail
          refine Calls.mono (HU.out w1 hb1) ?_
          rintro e w2 ⟨vu, rfl, hou, hb2', -⟩
          have hb2 : Below w.heap.size w w2 := hb1.trans (hb2'.mono hb1.size)
          obtain ⟨Au, cu, rfl, -⟩ := own_sl hou
          clear hou hb2'
          go_wp2_with fail
          refine Calls.mono (HO.out w2 hb2 HQ.out) ?_
          rintro e w3 ⟨Ai, ni, ci, An, nn, cn, rfl, -, hb3'⟩
          rw [HE.out]
          have hb3 : Below w.heap.size w w3 := hb2.trans (hb3'.mono hb2.size)
          clear hb3'
          obtain ⟨SS, hSS⟩ : ∃ SS, (ofA f).sets = SS := ⟨_, rfl⟩
          rw [hSS]
          have hb4 : Below w.heap.size w (w3.alloc (.cells #[.int .i64 SS, .slice Ai ni ci, .slice An nn cn] 28)) := hb3.alloc hb3.size _
          clear hSS
          go_wp2_with fail
          refine Calls.mono (HI.out _ hb4) ?_
          rintro e w5 ⟨rfl, hb5'⟩
          have hb5 : Below w.heap.size w w5 := hb4.trans (hb5'.mono hb4.size)
          clear hb5'
          go_wp2_with fail
          refine Calls.mono (HW.out _ hb5) ?_
          rintro e w6 ⟨rfl, hb6⟩
          go_wp2_with fail
          go_ret
          exact ⟨rfl, hb5.trans (hb6.mono hb5.size)⟩
        · have g16 : ¬ (16 : Int) < ((untils f).length : Int) := by omega
          go_enter Tryd.func6, Tryd.ntmps6
          go_wp2_with fail
          refine Calls.mono (HI.out w (Below.refl _ _)) ?_
          rintro e w1 ⟨rfl, hb1⟩
          go_wp2_with fail
          refine Calls.mono (HU.out w1 hb1) ?_
          rintro e w2 ⟨vu, rfl, hou, hb2', -⟩
          have hb2 : Below w.heap.size w w2 := hb1.trans (hb2'.mono hb1.size)
          obtain ⟨Au, cu, rfl, -⟩ := own_sl hou
          clear hou hb2'
          go_wp2_with fail
          refine Calls.mono (HW.out w2 hb2) ?_
          rintro e w3 ⟨rfl, hb3⟩
          go_wp2_with fail
          go_ret
          exact ⟨rfl, hb2.trans (hb3.mono hb2.size)⟩
end Go.Proofs.YtamhjgkigjpbhaaDoor
