/- For every input the law WordTells returns true, and what is handed in reads as it did. No condition. -/
import Derived.Test.YtkikkplpalabhaaRowBase
import Derived.Test.YtkikkplpalabhaaMc
import Derived.Test.YtkikkplpalabhaaWkL1
namespace Go.Proofs.Ytkikkplpalabhaa
open Go.ChangeShapes Go.WideShapes Go.ChangeAt Go.RowKit

set_option maxRecDepth 100000 in
theorem WordTells_lifted (os : Os) (started : os.Started) (H : Type) (enc : TypeId × Value → H) :
    ReturnsInHanded {} Try.checked os 7 .any (Rows.wordTellsSpec.pre6 enc Try.prog Try.f7 Rows.wordTellsRow.domain false) (Rows.wordTellsSpec.post enc Try.prog Try.f7 false true false false) := by
  refine returnsInHanded_of_change_sized (C := Try.checked) own started (by kernel_rfl) Try.func7
    (ChangeSpec.witness6 (enc := enc) (C := Try.checked) false ⟨#[], #[.agg #[.slice none 0 0, .slice none 0 0], .int .i64 0], []⟩ 8 (by kernel_rfl) (by kernel_rfl) (by kernel_rfl) (by kernel_rfl)) ?_
  intro W base args ds gs before hval0 hW hcnd hsz0 _
  have hsz : (DataW.weightsEach Try.prog (Try.f7.params.toList ++ Rows.wordTellsSpec.plain.varTypes Try.prog) (ds ++ gs)).all (· ≤ reachBytes) = true := hsz0
  have hval : ∀ (j : Nat) t v, Try.f7.params[j]? = some t → args[j]? = some v → Value.okWide Try.prog W .any base t v := hval0
  have hW' := hW
  obtain ⟨p, q, hA0, hV, rfl, hfz, hnd⟩ := hW
  have hA : DataW.TrodAll enc Try.prog W 0 (fun _ => true) true Try.f7.params.toList args.toList ds p := hA0
  rw [Try.params7] at hA hval hsz
  obtain ⟨v0, vs0, d0, ds0, p0, q0, hargs, rfl, rfl, h0, r0⟩ := trodAll_cons hA
  obtain ⟨v1, vs1, d1, ds1, p1, q1, rfl, rfl, rfl, h1, r1⟩ := trodAll_cons r0
  obtain ⟨rfl, rfl, rfl⟩ := trodAll_nil r1
  obtain rfl : args = #[v0, v1] := by cases args; simp_all
  obtain ⟨rfl, rfl⟩ := trodVars_none hV
  have k0 := h0
  have sm0 : Small Try.prog 34 d0 := small_arg hsz (j := 0) rfl rfl
  have lt0 : ∀ x ∈ p0, x.block < W.heap.size := by obtain ⟨m, hm⟩ := k0; exact DataW.trod_lt m _ _ _ hm
  obtain ⟨A0, c0, l0, B0, d0', m0, hv0, hs0, ht0, hL0, hM0, w0, z0⟩ := open_two Try.underlying34 (by kernel_rfl) (by kernel_rfl) rfl rfl Try.underlying32 Try.underlying32 (by kernel_rfl) (by kernel_rfl) Try.underlying38 Try.underlying38 (hval 0 34 v0 rfl rfl) h0 sm0
  subst hv0
  rw [show Try.prog.bytesOf 38 = 8 from by kernel_rfl] at hL0 hM0
  simp only [reachBytes] at hL0 hM0
  replace hL0 : l0.length ≤ 17592186044416 := by omega
  replace hM0 : m0.length ≤ 17592186044416 := by omega
  obtain ⟨x1, rfl, rfl, rfl, ww1⟩ := open_int Try.underlying3 (hval 1 3 v1 rfl rfl) h1
  have w1 := bd_i64 ww1
  clear hA0 hval0
  refine (WordTells_any A0 B0 _ c0 _ d0' l0 m0 x1 W rfl rfl hs0 ht0 w1.2 hL0 hM0).mono fun e W' ⟨he, bel⟩ => ?_
  subst he
  exact ⟨_, rfl, _, _, _, [], _, [], hW', trodAll_mk1 (shut_bool Try.underlying4 _), (trodAll_cons_mk (Below.trod laidOut (by kernel_rfl) (of_decide_eq_true (by kernel_rfl)) k0 bel lt0) (trodAll_cons_mk (shut_int Try.underlying3 ww1) trodAll_mk0)), rfl, bel.frame _, fun h => by cases h⟩

theorem WordTells_holds : Rows.WordTellsSaid :=
  OpenClaim.holds_of_wide 7 Try.f7 rfl rfl rfl rfl rfl rfl rfl ⟨rfl, rfl, rfl, rfl, rfl⟩ rfl rfl rfl rfl rfl (by kernel_rfl) Try.func7 (by kernel_rfl)
    (of_decide_eq_true (by kernel_rfl)) (by unfold Func.isWrapper; first | (rw [if_pos (by decide +kernel)]; kernel_rfl) | (rw [if_neg (by decide +kernel)]; exact ⟨rfl, rfl⟩))
    (fun os started H enc _ => WordTells_lifted os started H enc)
#print axioms WordTells_holds
end Go.Proofs.Ytkikkplpalabhaa
