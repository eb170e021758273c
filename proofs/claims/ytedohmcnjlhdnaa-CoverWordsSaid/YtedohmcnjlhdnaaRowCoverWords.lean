/- For every input the law CoverWords returns true, and what is handed in reads as it did. No condition. -/
import Derived.Test.YtedohmcnjlhdnaaRowBase
import Derived.Test.YtedohmcnjlhdnaaMc
import Derived.Test.YtedohmcnjlhdnaaCwL5
namespace Go.Proofs.Ytedohmcnjlhdnaa
open Go.ChangeShapes Go.WideShapes Go.ChangeAt Go.RowKit

set_option maxRecDepth 100000 in
theorem CoverWords_lifted (os : Os) (started : os.Started) (H : Type) (enc : TypeId × Value → H) :
    ReturnsInHanded {} Try.checked os 11 .any (Rows.coverWordsSpec.pre6 enc Try.prog Try.f11 Rows.coverWordsRow.domain false) (Rows.coverWordsSpec.post enc Try.prog Try.f11 false true false false) := by
  refine returnsInHanded_of_change_sized (C := Try.checked) own started (by kernel_rfl) Try.func11
    (ChangeSpec.witness6 (enc := enc) (C := Try.checked) false ⟨#[], #[.slice none 0 0, .slice none 0 0, .agg #[.slice none 0 0, .slice none 0 0]], []⟩ 8 (by kernel_rfl) (by kernel_rfl) (by kernel_rfl) (by kernel_rfl)) ?_
  intro W base args ds gs before hval0 hW hcnd hsz0 _
  have hsz : (DataW.weightsEach Try.prog (Try.f11.params.toList ++ Rows.coverWordsSpec.plain.varTypes Try.prog) (ds ++ gs)).all (· ≤ reachBytes) = true := hsz0
  have hval : ∀ (j : Nat) t v, Try.f11.params[j]? = some t → args[j]? = some v → Value.okWide Try.prog W .any base t v := hval0
  have hW' := hW
  obtain ⟨p, q, hA0, hV, rfl, hfz, hnd⟩ := hW
  have hA : DataW.TrodAll enc Try.prog W 0 (fun _ => true) true Try.f11.params.toList args.toList ds p := hA0
  rw [Try.params11] at hA hval hsz
  obtain ⟨v0, vs0, d0, ds0, p0, q0, hargs, rfl, rfl, h0, r0⟩ := trodAll_cons hA
  obtain ⟨v1, vs1, d1, ds1, p1, q1, rfl, rfl, rfl, h1, r1⟩ := trodAll_cons r0
  obtain ⟨v2, vs2, d2, ds2, p2, q2, rfl, rfl, rfl, h2, r2⟩ := trodAll_cons r1
  obtain ⟨rfl, rfl, rfl⟩ := trodAll_nil r2
  obtain rfl : args = #[v0, v1, v2] := by cases args; simp_all
  obtain ⟨rfl, rfl⟩ := trodVars_none hV
  have k0 := h0
  have sm0 : Small Try.prog 22 d0 := small_arg hsz (j := 0) rfl rfl
  have lt0 : ∀ x ∈ p0, x.block < W.heap.size := by obtain ⟨m, hm⟩ := k0; exact DataW.trod_lt m _ _ _ hm
  obtain ⟨a0, len0, cap0, rfl⟩ := okWide_slice Try.underlying22 (hval 0 22 v0 rfl rfl)
  obtain ⟨fuel0, hf0⟩ := h0
  obtain ⟨A0, c0, f0, hcs0, hs0, w0, hL0⟩ := open_nodes' Try.underlying22 Try.underlying38 (by kernel_rfl) (by kernel_rfl) Try.underlying3 Try.underlying3 hf0 sm0
  rw [show Try.prog.bytesOf 38 = 16 from by kernel_rfl] at hL0
  simp only [reachBytes] at hL0
  replace hL0 : f0.length ≤ 8796093022208 := by omega
  simp [Value.cells] at hcs0
  obtain ⟨rfl, rfl, rfl⟩ := hcs0
  have k1 := h1
  have sm1 : Small Try.prog 28 d1 := small_arg hsz (j := 1) rfl rfl
  have lt1 : ∀ x ∈ p1, x.block < W.heap.size := by obtain ⟨m, hm⟩ := k1; exact DataW.trod_lt m _ _ _ hm
  obtain ⟨a1, len1, cap1, rfl⟩ := okWide_slice Try.underlying28 (hval 1 28 v1 rfl rfl)
  obtain ⟨fuel1, hf1⟩ := h1
  obtain ⟨A1, c1, l1, hcs1, hs1, hL1, w1⟩ := open_nums Try.underlying28 (by kernel_rfl) Try.underlying3 hf1 sm1
  rw [show Try.prog.bytesOf 3 = 8 from by kernel_rfl] at hL1
  simp only [reachBytes] at hL1
  replace hL1 : l1.length ≤ 17592186044416 := by omega
  simp [Value.cells] at hcs1
  obtain ⟨rfl, rfl, rfl⟩ := hcs1
  have k2 := h2
  have sm2 : Small Try.prog 27 d2 := small_arg hsz (j := 2) rfl rfl
  have lt2 : ∀ x ∈ p2, x.block < W.heap.size := by obtain ⟨m, hm⟩ := k2; exact DataW.trod_lt m _ _ _ hm
  obtain ⟨A2, c2, l2, B2, d2', m2, hv2, hs2, ht2, hL2, hM2, w2, z2⟩ := open_two Try.underlying27 (by kernel_rfl) (by kernel_rfl) rfl rfl Try.underlying25 Try.underlying25 (by kernel_rfl) (by kernel_rfl) Try.underlying45 Try.underlying45 (hval 2 27 v2 rfl rfl) h2 sm2
  subst hv2
  rw [show Try.prog.bytesOf 45 = 8 from by kernel_rfl] at hL2 hM2
  simp only [reachBytes] at hL2 hM2
  replace hL2 : l2.length ≤ 17592186044416 := by omega
  replace hM2 : m2.length ≤ 17592186044416 := by omega
  clear hA0 hval0
  refine (CoverWords_any a0 cap0 f0 a1 l1.length cap1 l1 A2 l2.length c2 l2 B2 m2.length d2' m2 W hs0 hs1 hs2 ht2 rfl rfl rfl hL0 hL1 hL2 hM2 (fun x hx => bd_u64 (w2 x hx)) (fun x hx => bd_u64 (z2 x hx))).mono fun e W' ⟨he, bel⟩ => ?_
  subst he
  exact ⟨_, rfl, _, _, _, [], _, [], hW', trodAll_mk1 (shut_bool Try.underlying4 _), (trodAll_cons_mk (Below.trod laidOut (by kernel_rfl) (of_decide_eq_true (by kernel_rfl)) k0 bel lt0) (trodAll_cons_mk (Below.trod laidOut (by kernel_rfl) (of_decide_eq_true (by kernel_rfl)) k1 bel lt1) (trodAll_cons_mk (Below.trod laidOut (by kernel_rfl) (of_decide_eq_true (by kernel_rfl)) k2 bel lt2) trodAll_mk0))), rfl, bel.frame _, fun h => by cases h⟩

theorem CoverWords_holds : Rows.CoverWordsSaid :=
  OpenClaim.holds_of_wide 11 Try.f11 rfl rfl rfl rfl rfl rfl rfl ⟨rfl, rfl, rfl, rfl, rfl⟩ rfl rfl rfl rfl rfl (by kernel_rfl) Try.func11 (by kernel_rfl)
    (of_decide_eq_true (by kernel_rfl)) (by unfold Func.isWrapper; first | (rw [if_pos (by decide +kernel)]; kernel_rfl) | (rw [if_neg (by decide +kernel)]; exact ⟨rfl, rfl⟩))
    (fun os started H enc _ => CoverWords_lifted os started H enc)
#print axioms CoverWords_holds
end Go.Proofs.Ytedohmcnjlhdnaa
