/- Law BitsWords: the digits of a number that are 1, as far as one goes. -/
import Derived.Test.YtikhlcdgibnolaaDoorTz4
import Derived.Test.YtikhlcdgibnolaaDoorBw5
namespace Go.Proofs.YtikhlcdgibnolaaDoor
open Go.RowKit Go.Shelf

attribute [local go_sem] Oper.semAt_some

theorem pc_bits (x : Nat) : pc x = (bitsL x).length := by rw [pc, bitsL, List.countP_eq_length_filter]
theorem pre_at {L pre : List Nat} {i : Nat} (h : pre ++ [i] <+: L) : pre.length < L.length ∧ L[pre.length]? = some i := by
  obtain ⟨t, rfl⟩ := h
  simp
set_option maxRecDepth 100000 in
set_option maxHeartbeats 4000000 in
theorem BitsWords_in (m : Nat) (hm : 6 ≤ m) (x mo K : Nat) (w : World) (hx : x < 2 ^ 64) (hmo : mo ≤ 255) (hK : mo % 64 = K) (hg : 0 < w.heap.size) (hT : TabAt 0 Lib.deBruijn64tab w) :
    CallsIn Fence.wide m Tryd.prog 3 #[.int .u64 (x : Int), .int .u8 (mo : Int)] w (Tru w true) := by
  have h1m : 1 ≤ m := by omega
  have hne := func_ne_nil 35
  have hK64 : K < 64 := by omega
  have eK : ((mo : Int) % 64) = (K : Int) := by omega
  have EK := Lib.hid eK
  have HE := Lib.hid (fun w' => rEach_any x w' hx)
  have HR := Lib.hid (fun w' => rOnes_any x w' hx)
  have HO := Lib.hid (fun w' => bones_any x w' hx)
  rw [pc_bits] at HO
  clear hK eK
  refine callsIn_of_wp_marks Tryd.func3 rfl trivial ?_ rfl
  simp only [Tryd.ntmps3, List.size_toArray, List.length_cons, List.length_nil, Nat.reduceAdd, Nat.reduceSub, Array.replicate_succ, Array.replicate_zero, List.push_toArray, List.append_toArray, List.nil_append, List.cons_append]
  gi_wp2_with (first | (refine ⟨trivial, ?_⟩; gi_at_call 8; refine (callsIn_wide.2 (each_any _ _)).mono ?_; rintro e w' ⟨rfl, rfl⟩) | (refine ⟨trivial, ?_⟩; gi_at_call 9; refine (callsIn_wide.2 (HE.out _)).mono ?_; rintro e w1 ⟨v1, rfl, hown1, hb1, hnil1⟩; obtain ⟨A1, c1, rfl, hs1⟩ := own_sl hown1))
  obtain ⟨w0, hw0⟩ : ∃ w0, ((w.alloc (.cells #[.int .u8 (mo : Int)] 5)).alloc (.cells #[.bool false] 4)).alloc (.cells #[.int .u64 (x : Int)] 22) = w0 := ⟨_, rfl⟩
  rw [hw0] at hb1
  have hz0 : w0.heap.size = w.heap.size + 3 := by rw [← hw0]; simp
  have bM0 : Boxed w0 w.heap.size 5 (.int .u8 (mo : Int)) := by rw [← hw0]; exact ((Boxed.new w _ _).alloc _).alloc _
  have bR0 : Boxed w0 (w.heap.size + 1) 4 (.bool false) := by
    rw [← hw0]; have := (Boxed.new (w.alloc (.cells #[.int .u8 (mo : Int)] 5)) 4 (.bool false)).alloc (.cells #[.int .u64 (x : Int)] 22); rwa [World.size_alloc] at this
  have bX0 : Boxed w0 (w.heap.size + 1 + 1) 22 (.int .u64 (x : Int)) := by
    rw [← hw0]; have := Boxed.new ((w.alloc (.cells #[.int .u8 (mo : Int)] 5)).alloc (.cells #[.bool false] 4)) 22 (.int .u64 (x : Int)); simpa [World.size_alloc] using this
  have hB0 : Below w.heap.size w w0 := by rw [← hw0]; exact (((Below.refl _ w).alloc (Nat.le_refl _) _).alloc (by simp) _).alloc (by simp; omega) _
  obtain ⟨W0, hW0⟩ : ∃ W0, (w1.alloc (.cells #[.slice A1 (bitsL x).length c1] 26)).alloc (.cells #[.int .i64 0] 3) = W0 := ⟨_, rfl⟩
  have hz1 := hb1.size
  have hsz : W0.heap.size = w1.heap.size + 2 := by rw [← hW0]; simp
  have hB1 : Below w1.heap.size w1 W0 := by rw [← hW0]; exact ((Below.refl _ w1).alloc (Nat.le_refl _) _).alloc (by simp) _
  have bM : Boxed W0 w.heap.size 5 (.int .u8 (mo : Int)) := (hB1.block _ (by omega)).trans ((hb1.block _ (by omega)).trans bM0)
  have bR : Boxed W0 (w.heap.size + 1) 4 (.bool false) := (hB1.block _ (by omega)).trans ((hb1.block _ (by omega)).trans bR0)
  have bX : Boxed W0 (w.heap.size + 1 + 1) 22 (.int .u64 (x : Int)) := (hB1.block _ (by omega)).trans ((hb1.block _ (by omega)).trans bX0)
  have bW : Boxed W0 w1.heap.size 26 (.slice A1 (bitsL x).length c1) := by rw [← hW0]; exact (Boxed.new w1 _ _).alloc _
  have bN : Boxed W0 (w1.heap.size + 1) 3 (.int .i64 ((0 : Nat) : Int)) := by
    rw [← hW0]; have := Boxed.new (w1.alloc (.cells #[.slice A1 (bitsL x).length c1] 26)) 3 (.int .i64 0); rwa [World.size_alloc] at this
  have hs0 := hs1.below hB1 (Nat.le_refl _)
  have hBw : Below w.heap.size w W0 := (hB0.trans (hb1.mono (by omega))).trans (hB1.mono (by omega))
  have hT0 : TabAt 0 Lib.deBruijn64tab W0 := tab_below hT hg hBw
  rw [hW0]
  clear hW0 hw0 hne bM0 bR0 bX0 hB0 hb1 hown1 hnil1 hs1 HE hB1
  refine wpIn_rangeFunc_T rfl h1m (gf := 35) (lb := #[.pointer (some ⟨w.heap.size + 1 + 1, 0, none⟩)]) rfl trivial (enters_of Tryd.func35 (by kernel_rfl) rfl)
    (each_T (m - 1) (by omega) (w.heap.size + 1 + 1) x hx (fun k => k = w1.heap.size + 1) W0 (fun k e => by omega) (by omega) (fun e => by omega) (by omega) bX.cell hT0) (fun k e => by omega) (fun _ => rfl)
    (fun s V => ((((Boxed V w.heap.size 5 (.int .u8 (mo : Int)) ∧ Boxed V (w.heap.size + 1) 4 (.bool false)) ∧ Boxed V w1.heap.size 26 (.slice A1 (bitsL x).length c1)) ∧ Boxed V (w1.heap.size + 1) 3 (.int .i64 (s.1.length : Int))) ∧ Below w1.heap.size W0 V) ∧ (s.1.length ≤ K ∧ s.2 = fun k => k = w1.heap.size + 1))
    (fun c s V => ((((Boxed V w.heap.size 5 (.int .u8 (mo : Int)) ∧ Boxed V (w.heap.size + 1) 4 (.bool false)) ∧ Boxed V w1.heap.size 26 (.slice A1 (bitsL x).length c1)) ∧ Boxed V (w1.heap.size + 1) 3 (.int .i64 (s.1.length : Int))) ∧ Below w1.heap.size W0 V) ∧ (s.1.length = K + 1 ∧ c = .exit 0))
    (OwnFrom.and (OwnFrom.and (OwnFrom.and (OwnFrom.and (OwnFrom.and (Own.from (boxed_own _ _ _) _) (Own.from (boxed_own _ _ _) _)) (Own.from (boxed_own _ _ _) _)) (Own.from (boxed_own _ _ (fun s : List Nat × (Nat → Prop) => .int .i64 (s.1.length : Int))) _)) (ownFrom_below (by omega) (by omega))) (ownFrom_pure _ _))
    (fun c => OwnFrom.and (OwnFrom.and (OwnFrom.and (OwnFrom.and (OwnFrom.and (Own.from (boxed_own _ _ _) _) (Own.from (boxed_own _ _ _) _)) (Own.from (boxed_own _ _ _) _)) (Own.from (boxed_own _ _ (fun s : List Nat × (Nat → Prop) => .int .i64 (s.1.length : Int))) _)) (ownFrom_below (by omega) (by omega))) (ownFrom_pure _ _))
    ⟨⟨⟨⟨⟨bM, bR⟩, bW⟩, bN⟩, Below.refl _ _⟩, Nat.zero_le _, rfl⟩
    (fun i a' _ => a' = { tmps := #[.int .u64 (x : Int), .int .u8 (mo : Int), undef, .pointer (some ⟨w.heap.size, 0, none⟩), .pointer (some ⟨w.heap.size + 1, 0, none⟩), .func (.func 35) #[] #[.pointer (some ⟨w.heap.size + 1 + 1, 0, none⟩)], .pointer (some ⟨w1.heap.size, 0, none⟩), .pointer (some ⟨w1.heap.size + 1, 0, none⟩), .int .i64 (i : Int), .int .u64 (x : Int), .func (.func 35) #[] #[.pointer (some ⟨w.heap.size + 1 + 1, 0, none⟩)], .func (.func 35) #[] #[.pointer (some ⟨w.heap.size + 1 + 1, 0, none⟩)], .bool false, .int .u64 (x : Int), .slice A1 (bitsL x).length c1, .func (.func 35) #[] #[.pointer (some ⟨w.heap.size + 1 + 1, 0, none⟩)], .int .i64 (i : Int), undef, undef, undef, undef, undef, undef, undef, undef, undef, undef, undef, undef, undef, undef, undef, undef, undef, undef, undef, undef, undef, undef, undef, undef, undef, undef, undef, undef, undef, undef, undef, undef, undef, undef, undef, undef, undef, undef], defers := [] })
    (fun _ _ _ _ _ _ hs _ _ => hs) ?assign ?body ?done ?stop
  case assign =>
    intro l2 pre i N1 V K' hi _ hK
    gi_wp2
    exact hK _ _ (Tch.refl _ _) hi rfl
  case body =>
    rintro l2 pre i N1 a2 V hl2 _ _ hNV ⟨⟨⟨⟨⟨hvM, hvR⟩, hvW⟩, hvN⟩, hbV⟩, hlt, hN⟩ rfl hlen
    dsimp only at hvN hlt hN
    subst hN
    obtain ⟨hpl, hpi⟩ := pre_at hlen
    have hpc : (icells (natI (bitsL x)))[pre.length]? = some (.int .i64 (i : Int)) := by simp [icells, natI, hpi]
    obtain ⟨ab, ao, rfl, hab, hrd⟩ := hs0.rd.at_ hpc
    have hrdV := (hbV.cell (p := ⟨ab, ao + pre.length, none⟩) hab).trans hrd
    have cM := Boxed.cell hvM
    have cW := Boxed.cell hvW
    have cN := Boxed.cell hvN
    have fN := Boxed.frozen hvN
    have hM2 := fun u => Boxed.cell (Boxed.other hvM (B' := w1.heap.size + 1) (by omega) u)
    have hN2 := fun u => (Boxed.set u hvN).cell
    have ek := EK.out
    clear hrd hpc hpi
    gi_wp2
    · have hle : (K : Int) < (pre.length : Int) + 1 := by assumption
      have hl1 : ((pre ++ [i]).length : Int) = (pre.length : Int) + 1 := by simp
      exact ⟨_, Rnd.of_tch (Tch.setCell (S := fun k => k = w1.heap.size + 1) (p := ⟨w1.heap.size + 1, 0, none⟩) (Tch.refl _ V) (fun _ => rfl) _) hNV, ⟨⟨⟨⟨Boxed.other hvM (by omega) _, Boxed.other hvR (by omega) _⟩, Boxed.other hvW (by omega) _⟩, by rw [hl1]; exact Boxed.set _ hvN⟩, hbV.setCell (p := ⟨w1.heap.size + 1, 0, none⟩) (by show w1.heap.size ≤ w1.heap.size + 1; omega) _⟩, by simp; omega, rfl⟩
    · have hle : ¬ (K : Int) < (pre.length : Int) + 1 := by omega
      have hl1 : ((pre ++ [i]).length : Int) = (pre.length : Int) + 1 := by simp
      exact ⟨_, Rnd.of_tch (Tch.setCell (S := fun k => k = w1.heap.size + 1) (p := ⟨w1.heap.size + 1, 0, none⟩) (Tch.refl _ V) (fun _ => rfl) _) hNV, ⟨⟨⟨⟨Boxed.other hvM (by omega) _, Boxed.other hvR (by omega) _⟩, Boxed.other hvW (by omega) _⟩, by rw [hl1]; exact Boxed.set _ hvN⟩, hbV.setCell (p := ⟨w1.heap.size + 1, 0, none⟩) (by show w1.heap.size ≤ w1.heap.size + 1; omega) _⟩, by simp; omega, rfl⟩
  case done =>
    rintro D N1 V hD hDN ⟨⟨⟨⟨⟨hvM, hvR⟩, hvW⟩, hvN⟩, hbV⟩, hlt, hN⟩ hDv
    dsimp only at hvN hlt
    clear hN
    generalize bitsL x = L at *
    have hsB := hbV.size
    have cM := Boxed.cell hvM
    have cW := Boxed.cell hvW
    have cN := Boxed.cell hvN
    have ek := EK.out
    have hRV := Boxed.lt hvR
    have hDl := (Array.getElem?_eq_some_iff.1 hDv).1
    have hmn : ¬ (K : Int) + 1 < (L.length : Int) := by omega
    gi_wp2_with (first | (refine ⟨trivial, ?_⟩; gi_at_call 10; refine (callsIn_wide.2 (HO.out _)).mono ?_; rintro e w' ⟨rfl, rfl⟩) | (refine ⟨trivial, ?_⟩; gi_at_call 11; refine (callsIn_wide.2 (HR.out _)).mono ?_; rintro e w2 ⟨rfl, hb2⟩) | (refine ⟨trivial, ?_⟩; gi_at_call 12; refine (callsIn_wide.2 (bawake_any _)).mono ?_; rintro e w3 ⟨rfl, hb3⟩; have hR3 : Boxed w3 (w.heap.size + 1) 4 (.bool false) := (hb3.block _ (by have := hb2.size; omega)).trans ((hb2.block _ hRV).trans hvR); have cR3 := Boxed.cell hR3; have fR3 := Boxed.frozen hR3; have cR4 := fun u => (Boxed.set u hR3).cell))
    have hD3 : (w3.setCell ⟨w.heap.size + 1, 0, none⟩ (.bool true)).heap[D]? = some (.deferred (some [])) := (Below.heap_setCell _ _ _ _ (by show D ≠ w.heap.size + 1; omega)).trans ((hb3.block _ (by have := hb2.size; omega)).trans ((hb2.block _ hDl).trans hDv))
    have hz2 := hb2.size
    have hbe : Below w.heap.size w (w3.setCell ⟨w.heap.size + 1, 0, none⟩ (.bool true)) := (((hBw.trans (hbV.mono (by omega))).trans (hb2.mono (by omega))).trans (hb3.mono (by omega))).setCell (p := ⟨w.heap.size + 1, 0, none⟩) (by show w.heap.size ≤ w.heap.size + 1; omega) _
    have hc5 := cell_kept (cR4 (.bool true)) (grownBy_putObj' _ D (.deferred none)) (fun r e => by cases e; exact ⟨_, hD3, rfl⟩)
    refine ⟨by simp, .inl ⟨_, _, rfl, run_takeDeferred hD3, ?_⟩⟩
    exact ⟨.bool true, by simp [results, Tryd.results3, go_sem, hc5], rfl, hbe.trans (belowK_b (w := w) (Nat.le_refl _) _ D _ _ (by omega) hD3 rfl rfl)⟩
  case stop =>
    rintro D c pre N1 V hD hDN hpre ⟨⟨⟨⟨⟨hvM, hvR⟩, hvW⟩, hvN⟩, hbV⟩, hlt, rfl⟩ hDv
    dsimp only at hvN hlt
    have hpl := hpre.length_le
    rw [hlt] at hvN
    clear hpre
    generalize bitsL x = L at *
    by_cases hmn : (K : Int) + 1 < (L.length : Int)
    · have hsB := hbV.size
      have cM := Boxed.cell hvM
      have cW := Boxed.cell hvW
      have cN := Boxed.cell hvN
      have ek := EK.out
      have hRV := Boxed.lt hvR
      have hDl := (Array.getElem?_eq_some_iff.1 hDv).1
      gi_wp2_with (first | (refine ⟨trivial, ?_⟩; gi_at_call 10; refine (callsIn_wide.2 (HO.out _)).mono ?_; rintro e w' ⟨rfl, rfl⟩) | (refine ⟨trivial, ?_⟩; gi_at_call 11; refine (callsIn_wide.2 (HR.out _)).mono ?_; rintro e w2 ⟨rfl, hb2⟩) | (refine ⟨trivial, ?_⟩; gi_at_call 12; refine (callsIn_wide.2 (bawake_any _)).mono ?_; rintro e w3 ⟨rfl, hb3⟩; have hR3 : Boxed w3 (w.heap.size + 1) 4 (.bool false) := (hb3.block _ (by have := hb2.size; omega)).trans ((hb2.block _ hRV).trans hvR); have cR3 := Boxed.cell hR3; have fR3 := Boxed.frozen hR3; have cR4 := fun u => (Boxed.set u hR3).cell))
      have hD3 : (w3.setCell ⟨w.heap.size + 1, 0, none⟩ (.bool true)).heap[D]? = some (.deferred (some [])) := (Below.heap_setCell _ _ _ _ (by show D ≠ w.heap.size + 1; omega)).trans ((hb3.block _ (by have := hb2.size; omega)).trans ((hb2.block _ hDl).trans hDv))
      have hz2 := hb2.size
      have hbe : Below w.heap.size w (w3.setCell ⟨w.heap.size + 1, 0, none⟩ (.bool true)) := (((hBw.trans (hbV.mono (by omega))).trans (hb2.mono (by omega))).trans (hb3.mono (by omega))).setCell (p := ⟨w.heap.size + 1, 0, none⟩) (by show w.heap.size ≤ w.heap.size + 1; omega) _
      have hc5 := cell_kept (cR4 (.bool true)) (grownBy_putObj' _ D (.deferred none)) (fun r e => by cases e; exact ⟨_, hD3, rfl⟩)
      refine ⟨by simp, .inl ⟨_, _, rfl, run_takeDeferred hD3, ?_⟩⟩
      exact ⟨.bool true, by simp [results, Tryd.results3, go_sem, hc5], rfl, hbe.trans (belowK_b (w := w) (Nat.le_refl _) _ D _ _ (by omega) hD3 rfl rfl)⟩
    · have hsB := hbV.size
      have cM := Boxed.cell hvM
      have cW := Boxed.cell hvW
      have cN := Boxed.cell hvN
      have ek := EK.out
      have hRV := Boxed.lt hvR
      have hDl := (Array.getElem?_eq_some_iff.1 hDv).1
      gi_wp2_with (first | (refine ⟨trivial, ?_⟩; gi_at_call 10; refine (callsIn_wide.2 (HO.out _)).mono ?_; rintro e w' ⟨rfl, rfl⟩) | (refine ⟨trivial, ?_⟩; gi_at_call 11; refine (callsIn_wide.2 (HR.out _)).mono ?_; rintro e w2 ⟨rfl, hb2⟩) | (refine ⟨trivial, ?_⟩; gi_at_call 12; refine (callsIn_wide.2 (bawake_any _)).mono ?_; rintro e w3 ⟨rfl, hb3⟩; have hR3 : Boxed w3 (w.heap.size + 1) 4 (.bool false) := (hb3.block _ (by have := hb2.size; omega)).trans ((hb2.block _ hRV).trans hvR); have cR3 := Boxed.cell hR3; have fR3 := Boxed.frozen hR3; have cR4 := fun u => (Boxed.set u hR3).cell))
      have hD3 : (w3.setCell ⟨w.heap.size + 1, 0, none⟩ (.bool true)).heap[D]? = some (.deferred (some [])) := (Below.heap_setCell _ _ _ _ (by show D ≠ w.heap.size + 1; omega)).trans ((hb3.block _ (by have := hb2.size; omega)).trans ((hb2.block _ hDl).trans hDv))
      have hz2 := hb2.size
      have hbe : Below w.heap.size w (w3.setCell ⟨w.heap.size + 1, 0, none⟩ (.bool true)) := (((hBw.trans (hbV.mono (by omega))).trans (hb2.mono (by omega))).trans (hb3.mono (by omega))).setCell (p := ⟨w.heap.size + 1, 0, none⟩) (by show w.heap.size ≤ w.heap.size + 1; omega) _
      have hc5 := cell_kept (cR4 (.bool true)) (grownBy_putObj' _ D (.deferred none)) (fun r e => by cases e; exact ⟨_, hD3, rfl⟩)
      refine ⟨by simp, .inl ⟨_, _, rfl, run_takeDeferred hD3, ?_⟩⟩
      exact ⟨.bool true, by simp [results, Tryd.results3, go_sem, hc5], rfl, hbe.trans (belowK_b (w := w) (Nat.le_refl _) _ D _ _ (by omega) hD3 rfl rfl)⟩
theorem BitsWords_any (x mo : Int) (w : World) (hx : 0 ≤ x ∧ x ≤ 18446744073709551615) (hmo : 0 ≤ mo ∧ mo ≤ 255) (hg : 0 < w.heap.size) (hT : TabAt 0 Lib.deBruijn64tab w) :
    Calls Tryd.prog 3 #[.int .u64 x, .int .u8 mo] w (Tru w true) := by
  obtain ⟨x, rfl⟩ := Int.eq_ofNat_of_zero_le hx.1
  obtain ⟨mo, rfl⟩ := Int.eq_ofNat_of_zero_le hmo.1
  exact (callsIn_wide (n := 6)).1 (BitsWords_in 6 (Nat.le_refl _) x mo (mo % 64) w (by omega) (by omega) rfl hg hT)
end Go.Proofs.YtikhlcdgibnolaaDoor
