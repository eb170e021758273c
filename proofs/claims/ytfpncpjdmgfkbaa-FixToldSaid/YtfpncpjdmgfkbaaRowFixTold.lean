/- For every input the law FixTold returns true, and what is handed in reads as it did. No condition. -/
import Derived.Test.YtfpncpjdmgfkbaaRowBase
import Derived.Test.YtfpncpjdmgfkbaaMc
import Derived.Test.YtfpncpjdmgfkbaaFxL3
namespace Go.Proofs.Ytfpncpjdmgfkbaa
open Go.ChangeShapes Go.WideShapes Go.ChangeAt Go.RowKit

set_option maxRecDepth 100000 in
theorem FixTold_lifted (os : Os) (started : os.Started) (H : Type) (enc : TypeId × Value → H) :
    ReturnsInHanded {} Try.checked os 12 .any (Rows.fixToldSpec.pre6 enc Try.prog Try.f12 Rows.fixToldRow.domain false) (Rows.fixToldSpec.post enc Try.prog Try.f12 false true false false) := by
  refine returnsInHanded_of_change_sized (C := Try.checked) own started (by kernel_rfl) Try.func12
    (ChangeSpec.witness6 (enc := enc) (C := Try.checked) false ⟨#[], #[.agg #[.slice none 0 0, .slice none 0 0, .slice none 0 0], .slice none 0 0, .agg #[.slice none 0 0, .slice none 0 0]], []⟩ 8 (by kernel_rfl) (by kernel_rfl) (by kernel_rfl) (by kernel_rfl)) ?_
  intro W base args ds gs before hval0 hW hcnd hsz0 _
  have hsz : (DataW.weightsEach Try.prog (Try.f12.params.toList ++ Rows.fixToldSpec.plain.varTypes Try.prog) (ds ++ gs)).all (· ≤ reachBytes) = true := hsz0
  have hval : ∀ (j : Nat) t v, Try.f12.params[j]? = some t → args[j]? = some v → Value.okWide Try.prog W .any base t v := hval0
  have hW' := hW
  obtain ⟨p, q, hA0, hV, rfl, hfz, hnd⟩ := hW
  have hA : DataW.TrodAll enc Try.prog W 0 (fun _ => true) true Try.f12.params.toList args.toList ds p := hA0
  rw [Try.params12] at hA hval hsz
  obtain ⟨v0, vs0, d0, ds0, p0, q0, hargs, rfl, rfl, h0, r0⟩ := trodAll_cons hA
  obtain ⟨v1, vs1, d1, ds1, p1, q1, rfl, rfl, rfl, h1, r1⟩ := trodAll_cons r0
  obtain ⟨v2, vs2, d2, ds2, p2, q2, rfl, rfl, rfl, h2, r2⟩ := trodAll_cons r1
  obtain ⟨rfl, rfl, rfl⟩ := trodAll_nil r2
  obtain rfl : args = #[v0, v1, v2] := by cases args; simp_all
  obtain ⟨rfl, rfl⟩ := trodVars_none hV
  have k0 := h0
  have sm0 : Small Try.prog 26 d0 := small_arg hsz (j := 0) rfl rfl
  have lt0 : ∀ x ∈ p0, x.block < W.heap.size := by obtain ⟨m, hm⟩ := k0; exact DataW.trod_lt m _ _ _ hm
  obtain ⟨ai0, ni0, ci0, ae0, ne0, ce0, al0, nl0, cl0, G0, hv0, hG0, hLi0, hLe0, hLl0, hLr0⟩ := open_graph Try.underlying26 (by kernel_rfl) (by kernel_rfl) rfl rfl rfl Try.underlying22 Try.underlying24 Try.underlying23 Try.underlying34 (by kernel_rfl) (by kernel_rfl) (by kernel_rfl) Try.underlying3 Try.underlying60 Try.underlying42 (by kernel_rfl) (by kernel_rfl) Try.underlying3 Try.underlying3 (by kernel_rfl) (by kernel_rfl) (by kernel_rfl) (by kernel_rfl) (hval 0 26 v0 rfl rfl) h0 sm0
  subst hv0
  have k1 := h1
  have sm1 : Small Try.prog 47 d1 := small_arg hsz (j := 1) rfl rfl
  have lt1 : ∀ x ∈ p1, x.block < W.heap.size := by obtain ⟨m, hm⟩ := k1; exact DataW.trod_lt m _ _ _ hm
  obtain ⟨a1, len1, cap1, rfl⟩ := okWide_slice Try.underlying47 (hval 1 47 v1 rfl rfl)
  obtain ⟨fuel1, hf1⟩ := h1
  obtain ⟨A1, c1, l1, hcs1, hs1, hL1, hM1⟩ := open_boolss Try.underlying47 (by kernel_rfl) Try.underlying35 (by kernel_rfl) Try.underlying4 (by kernel_rfl) hf1 sm1
  simp [Value.cells] at hcs1
  obtain ⟨rfl, rfl, rfl⟩ := hcs1
  have k2 := h2
  have sm2 : Small Try.prog 51 d2 := small_arg hsz (j := 2) rfl rfl
  have lt2 : ∀ x ∈ p2, x.block < W.heap.size := by obtain ⟨m, hm⟩ := k2; exact DataW.trod_lt m _ _ _ hm
  obtain ⟨A2, c2, l2, B2, d2', m2, hv2, hs2, ht2, hL2, hM2, w2, z2⟩ := open_two Try.underlying51 (by kernel_rfl) (by kernel_rfl) rfl rfl Try.underlying22 Try.underlying22 (by kernel_rfl) (by kernel_rfl) Try.underlying3 Try.underlying3 (hval 2 51 v2 rfl rfl) h2 sm2
  subst hv2
  rw [show Try.prog.bytesOf 3 = 8 from by kernel_rfl] at hL2 hM2
  simp only [reachBytes] at hL2 hM2
  replace hL2 : l2.length ≤ 17592186044416 := by omega
  replace hM2 : m2.length ≤ 17592186044416 := by omega
  clear hA0 hval0
  refine (FixTold_any ai0 ae0 al0 ni0 ci0 ne0 ce0 nl0 cl0 a1 _ cap1 A2 B2 _ c2 _ d2' G0 l1 l2 m2 W W.heap.size hG0 hs1 hs2 ht2 (Nat.le_refl _) (by have := hG0.lens.2.2; omega)).mono fun e W' ⟨he, bel⟩ => ?_
  subst he
  exact ⟨_, rfl, _, _, _, [], _, [], hW', trodAll_mk1 (shut_bool Try.underlying4 _), (trodAll_cons_mk (Below.trod laidOut (by kernel_rfl) (of_decide_eq_true (by kernel_rfl)) k0 bel lt0) (trodAll_cons_mk (Below.trod laidOut (by kernel_rfl) (of_decide_eq_true (by kernel_rfl)) k1 bel lt1) (trodAll_cons_mk (Below.trod laidOut (by kernel_rfl) (of_decide_eq_true (by kernel_rfl)) k2 bel lt2) trodAll_mk0))), rfl, bel.frame _, fun h => by cases h⟩

theorem FixTold_holds : Rows.FixToldSaid :=
  OpenClaim.holds_of_wide 12 Try.f12 rfl rfl rfl rfl rfl rfl rfl ⟨rfl, rfl, rfl, rfl, rfl⟩ rfl rfl rfl rfl rfl (by kernel_rfl) Try.func12 (by kernel_rfl)
    (of_decide_eq_true (by kernel_rfl)) (by unfold Func.isWrapper; first | (rw [if_pos (by decide +kernel)]; kernel_rfl) | (rw [if_neg (by decide +kernel)]; exact ⟨rfl, rfl⟩))
    (fun os started H enc _ => FixTold_lifted os started H enc)
#print axioms FixTold_holds
end Go.Proofs.Ytfpncpjdmgfkbaa
