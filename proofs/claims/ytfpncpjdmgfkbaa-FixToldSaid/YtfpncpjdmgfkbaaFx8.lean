/- The walk of fix: Some, over what Fair answers. -/
import Derived.Test.YtfpncpjdmgfkbaaFx7
namespace Go.Proofs.Ytfpncpjdmgfkbaa
open Go.RowKit

def initB (z : List Bool) (l : List Int) : Bool := l.any (fun i => hasB z i)
theorem initB_succ {z : List Bool} {l : List Int} {k : Nat} (hk : k < l.length) : initB z (l.take (k + 1)) = (initB z (l.take k) || hasB z l[k]) := by
  rw [take_snoc l k hk, initB, List.any_append, List.any_cons, List.any_nil, Bool.or_false, initB]
theorem initB_of {z : List Bool} {l : List Int} {k : Nat} (hk : k < l.length) (h : hasB z l[k] = true) : initB z l = true := List.any_eq_true.2 ⟨_, List.getElem_mem hk, h⟩

section
variable (ai ae al : Option Addr) (ni ci ne ce nl cl : Nat)
set_option maxHeartbeats 1000000 in
theorem fsome_of (G : Gph) (z : List Bool) (S : Value) (w : World) (B : Nat) (h : GrRd w B ai ni ci ae ne ce al nl cl G) (hzn : ne = z.length) (hB : B ≤ w.heap.size) (hi : ni ≤ 1000000000)
    (HF : ∀ W, Below w.heap.size w W → Calls Try.prog 37 #[.agg #[.slice ai ni ci, .slice ae ne ce, .slice al nl cl], S] W (NewRow W 4 1 ne (bcells z) False)) :
    Calls Try.prog 39 #[.agg #[.slice ai ni ci, .slice ae ne ce, .slice al nl cl], S] w (Tru w (initB z G.init)) := by
  obtain ⟨w0, hw0, hb0, hz0, hx0, hx1, hx2⟩ := boxed3 w (.slice ai ni ci) (.slice ae ne ce) (.slice al nl cl) 26
  have HW0 := Lib.hid hw0
  clear hw0
  have hzl : w.heap.size < w0.heap.size := by omega
  have h' := h.below hb0 hB
  have hli : ni = G.init.length := h.lens.1
  have HLI := Lib.hid hli
  have HFC := Lib.hid (HF w0 hb0)
  have HZN := Lib.hid hzn
  clear HF h hz0 hli hzn
  go_enter Try.func39, Try.ntmps39
  go_wp2_with fail
  rw [← HW0.out]
  refine HFC.out.mono ?_
  rintro e w1 ⟨v, rfl, hown, hb1, _⟩
  obtain ⟨Az, cz, rfl, hsz⟩ := own_sl hown
  have hz1 := hb1.size
  have hi1 := h'.hi.below hb1 (by omega)
  have k0 := (hb1.cell (p := ⟨w.heap.size, 0, none⟩) hzl).trans hx0
  clear HFC HW0 hown
  go_wp2
  go_loopw [14] (fun i wr => ∃ k : Nat, k ≤ ni ∧ i = .int .i64 k ∧ Below w1.heap.size w1 wr ∧ Hid (initB z (G.init.take k) = false)) (fun i _ => ni - (intOf i).toNat)
  case atStart => exact ⟨0, by omega, rfl, Below.refl _ _, Lib.hid rfl⟩
  case round =>
    obtain ⟨k, hk, rfl, hbr, ht⟩ := hrel
    clear k0
    have hbw : Below w.heap.size w wr := hb0.trans ((hb1.trans (hbr.mono hz1)).mono (by omega))
    have HBW := Lib.hid hbw
    clear hbw
    by_cases hlt : k < ni
    · have hkx : k < G.init.length := by rw [← HLI.out]; exact hlt
      obtain ⟨b, o, rfl, _, hc⟩ := (hi1.rd.below hbr (by omega)).at_ (j := k) (u := .int .i64 G.init[k]) (by simp [icells, hkx])
      have hs := initB_succ (z := z) hkx
      have hof := fun h => initB_of (z := z) hkx h
      generalize G.init[k] = x at *
      have HS := Lib.hid hs
      have HO := Lib.hid hof
      have HH := Lib.hid (has_any Az ne cz z x wr _ HZN.out (hsz.below hbr (Nat.le_refl _)) hbr.size)
      have d1 : decide ((k : Int) < (ni : Int)) = true := by simp; omega
      clear hs hof
      cases hx : hasB z x
      · have HX := Lib.hid hx
        clear hx
        go_wp2_with fail
        refine HH.out.mono ?_
        rw [HX.out]
        rintro e w2 ⟨rfl, hb2⟩
        have HB2 := Lib.hid (hbr.trans (hb2.mono hbr.size))
        clear HH
        go_wp2
        go_roundw
        case rel => exact ⟨k + 1, by omega, by go_num, HB2.out, Lib.hid (by rw [HS.out, ht.out, HX.out]; rfl)⟩
        case measure => simp [intOf]; omega
      · have HX := Lib.hid hx
        clear hx
        go_wp2_with fail
        refine HH.out.mono ?_
        rw [HX.out]
        rintro e w2 ⟨rfl, hb2⟩
        have hbz := HBW.out.size
        have HB2 := Lib.hid (HBW.out.trans (hb2.mono hbz))
        clear HH
        go_wp2
        go_ret
        exact ⟨ret_bool (by simp [HO.out HX.out]), HB2.out⟩
    · have hkn : k = G.init.length := by rw [← HLI.out]; omega
      have ht' := ht.out
      rw [hkn, List.take_length] at ht'
      have HT := Lib.hid ht'
      clear ht' hkn
      go_wp2
      go_ret
      exact ⟨ret_bool (by simp [HT.out]), HBW.out⟩
end
end Go.Proofs.Ytfpncpjdmgfkbaa
