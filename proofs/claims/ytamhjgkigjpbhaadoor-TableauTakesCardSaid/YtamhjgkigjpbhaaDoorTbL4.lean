/- TableauTakes. -/
import Derived.Test.YtamhjgkigjpbhaaDoorZbs
import Derived.Test.YtamhjgkigjpbhaaDoorAt6
import Derived.Test.YtamhjgkigjpbhaaDoorWr5
namespace Go.Proofs.YtamhjgkigjpbhaaDoor
open Go.RowKit Go.Maps

/-- The same bits at each place: the same truths. -/
theorem placesL_bits {b1 b2 : Int → Nat → Bool} {n lp : Nat} (h : ∀ m i, i < n → b1 m i = b2 m i) (x : Nd) (a b : List Bool) : placesL b1 n lp x a b = placesL b2 n lp x a b := by
  unfold placesL
  have e : (List.range n).map (place1 (b1 x.n) x n lp a b) = (List.range n).map (place1 (b2 x.n) x n lp a b) := List.map_congr_left (fun i hi => by
    unfold place1; rw [h x.n i (List.mem_range.1 hi)])
  rw [e]
theorem val_bits {b1 b2 : Int → Nat → Bool} {n lp : Nat} (h : ∀ m i, i < n → b1 m i = b2 m i) : ∀ t : Tr, val b1 n lp t = val b2 n lp t
  | .leaf x => placesL_bits h x [] []
  | .un x a => by rw [val, val, val_bits h a]; exact placesL_bits h x _ _
  | .bin x a b => by rw [val, val, val_bits h a, val_bits h b]; exact placesL_bits h x _ _
/-- A word's sets, one behind the other. -/
def wordN (st lo : List Int) : List Nat := (st ++ lo).map Int.toNat
theorem wordN_len (st lo : List Int) : (wordN st lo).length = st.length + lo.length := by simp [wordN]
theorem wordN_at {st lo : List Int} {k : Nat} (hk : k < st.length + lo.length) : (wordN st lo).getD k 0 = (seqW st lo k).toNat := by
  have e : (wordN st lo).getD k 0 = ((st ++ lo).getD k 0).toNat := by
    unfold wordN
    rw [List.getD_eq_getElem?_getD, List.getD_eq_getElem?_getD, List.getElem?_map, List.getElem?_eq_getElem (by rw [List.length_append]; exact hk)]; rfl
  rw [e, seqW]
  by_cases h : k < st.length
  · rw [if_pos h, List.getD_eq_getElem?_getD, List.getElem?_append_left h, List.getD_eq_getElem?_getD]
  · rw [if_neg h, Nat.mod_eq_of_lt (by omega)]
    simp only [List.getD, List.getElem?_append_right (Nat.le_of_not_lt h)]
theorem wf_bd {l : List Int} (hl : ∀ n ∈ l, (Lit.int .u64 n).wf = true) (i : Nat) : 0 ≤ l.getD i 0 ∧ l.getD i 0 < 18446744073709551616 := by
  rw [List.getD_eq_getElem?_getD]
  rcases Nat.lt_or_ge i l.length with hi | hi
  · rw [List.getElem?_eq_getElem hi]
    have := hl _ (List.getElem_mem hi)
    simp [Lit.wf, IntKind.min, IntKind.max, IntKind.signed, IntKind.bits] at this
    simp only [Option.getD_some]; omega
  · rw [List.getElem?_eq_none hi]; simp
theorem seq_bd {st lo : List Int} (h1 : ∀ n ∈ st, (Lit.int .u64 n).wf = true) (h2 : ∀ n ∈ lo, (Lit.int .u64 n).wf = true) (k : Nat) : 0 ≤ seqW st lo k ∧ seqW st lo k < 18446744073709551616 := by
  rw [seqW]
  split
  · exact wf_bd h1 _
  · exact wf_bd h2 _
theorem wordN_lt {st lo : List Int} (h1 : ∀ n ∈ st, (Lit.int .u64 n).wf = true) (h2 : ∀ n ∈ lo, (Lit.int .u64 n).wf = true) (k : Nat) : (wordN st lo).getD k 0 < 2 ^ 64 := by
  rcases Nat.lt_or_ge k (st.length + lo.length) with hk | hk
  · rw [wordN_at hk]
    have := seq_bd h1 h2 k
    omega
  · rw [List.getD_eq_getElem?_getD, List.getElem?_eq_none (by rw [wordN_len]; exact hk)]; decide
theorem wordN_atW {st lo : List Int} (hnn : ∀ k, 0 ≤ seqW st lo k) (k : Nat) (hk : k < (wordN st lo).length) : atW st lo (k : Int) = (((wordN st lo).getD k 0 : Nat) : Int) := by
  rw [wordN_len] at hk
  rw [atW, if_neg (by omega), Int.toNat_natCast, wordN_at hk]
  have := hnn k
  omega
theorem wbit_bits {st lo : List Int} (hnn : ∀ k, 0 ≤ seqW st lo k) (m : Int) (k : Nat) (hk : k < st.length + lo.length) : wbit st lo m k = bitsW (wordN st lo) m k := by
  unfold wbit bitsW
  have h0 := hnn k
  rw [wordN_at hk]
  obtain ⟨x, hx⟩ : ∃ x : Nat, seqW st lo k = (x : Int) := ⟨(seqW st lo k).toNat, by omega⟩
  rw [hx, Int.toNat_natCast, ← shr_bit, and_one (Int.ediv_nonneg (by omega) (Int.le_of_lt (Int.pow_pos (by decide)))), Int.tmod_eq_emod_of_nonneg (Int.ediv_nonneg (by omega) (Int.le_of_lt (Int.pow_pos (by decide))))]
/-- What the document's Holds tells is what holds at the last node. -/
theorem holds_last {f : List Nd} {st lo : List Int} (hN : isN f = true) (hlo : lo ≠ []) (hnn : ∀ k, 0 ≤ seqW st lo k) :
    holdsW (wbit st lo) f st lo = holdsAt (bitsW (wordN st lo)) (wordN st lo).length st.length f (f.length - 1) 0 := by
  have hw := isN_good hN
  obtain ⟨hok, hfl⟩ := treeOf_ok hw
  have hp := isN_pos hN
  rw [holdsW_some hlo hw, wordN_len]
  rw [val_bits (b2 := bitsW (wordN st lo)) (fun m i hi => wbit_bits hnn m i hi)]
  have hat := at_whole hok
  rw [hfl] at hat
  have hsz : (treeOf f).size = f.length := by
    have := congrArg List.length hfl
    rwa [Tr.flat_len] at this
  exact (holdsAt_sub hok hat (by omega) (by omega) 0).symm
theorem takes_law {f : List Nd} {L : List Cov} {rows : List (List Nat)} {init : List Nat} {st lo : List Int} (hN : isN f = true) (hT : TabOk f L rows init) (h64 : (utl 0 f).length ≤ 64) (hlo : lo ≠ []) (hnn : ∀ k, 0 ≤ seqW st lo k) {z : List Bool}
    (hz : Gfp (prodE (tabA f L rows init) (wordN st lo) st.length) (asksA (tabA f L rows init) (wordN st lo).length) z) : takesB (tabA f L rows init) (wordN st lo) z = holdsW (wbit st lo) f st lo := by
  have h1 := tab_takes hN hT h64 (isN_pos hN) (W := wordN st lo) (lp := st.length) (by rw [wordN_len]; have := List.length_pos_iff.2 hlo; omega) hz
  rw [← takesB_iff (tabA_ok hT), ← holds_last hN hlo hnn] at h1
  exact Bool.eq_iff_iff.2 h1
theorem firstL_le4 {f : List Nd} {L : List Cov} {rows : List (List Nat)} (hN : isN f = true) (ht : tabL f = some (L, rows)) : TabInv f L rows ∧ (firstL f).length ≤ L.length := by
  unfold tabL at ht
  split at ht
  · cases ht
  · obtain ⟨hi, _⟩ := tabIt_inv hN _ _ _ (firstL_inv hN (isN_pos hN)) L rows ht
    obtain ⟨m, hm⟩ := hi.first
    exact ⟨hi, by rw [hm, List.length_append]; omega⟩
theorem tab_lens {f : List Nd} {L : List Cov} {rows : List (List Nat)} (hN : isN f = true) (h13 : f.length ≤ 13) (htab : tabL f = some (L, rows)) : (tabA f L rows (List.range (firstL f).length)).init.length ≤ 10000 ∧
    ∀ x ∈ (tabA f L rows (List.range (firstL f).length)).nodes, x.to.length ≤ 10000 ∧ x.need < 2 ^ 64 ∧ x.ban < 2 ^ 64 := by
  have hsc := (tab_scan htab).2
  obtain ⟨hi, hf⟩ := firstL_le4 hN htab
  have hT := tab_ok hN (isN_pos hN) htab
  refine ⟨by simp [tabA, natI]; omega, fun x hx => ?_⟩
  obtain ⟨k, hk, rfl⟩ := List.mem_iff_getElem.1 hx
  obtain ⟨c, hc, hxe⟩ := tab_node (List.getElem?_eq_getElem hk)
  obtain ⟨ps, hp1, hp2⟩ := hT.cov c (List.mem_of_getElem? hc)
  have hok := (cov_facts hN h13 hp1).2.1 c hp2
  rw [hxe]
  refine ⟨?_, Nat.lt_trans hok.txt.need (by decide), Nat.lt_trans hok.txt.ban (by decide)⟩
  show (natI (rows.getD k [])).length ≤ _
  have hkr : k < rows.length := by rw [hT.len]; exact (List.getElem?_eq_some_iff.1 hc).1
  rw [(hi.row k c hkr hc).1]
  have hl1 := next_ltC hN (hi.cov c (List.mem_of_getElem? hc))
  have := (cov_facts hN h13 hl1).2.2
  simp [natI, rowL]; omega
set_option maxHeartbeats 8000000 in
set_option maxRecDepth 100000 in
theorem TableauTakes_any (A A1 A2 : Option Addr) (n c n1 c1 n2 c2 : Nat) (f : List Nd) (st lo : List Int) (w : World) (hnf : n = f.length) (h1 : n1 = st.length) (h2 : n2 = lo.length) (hf : Sl w w.heap.size 2 A n c (ncells f)) (hs : Sl w w.heap.size 1 A1 n1 c1 (ucells st)) (ht : Sl w w.heap.size 1 A2 n2 c2 (ucells lo)) (hT : TzTab w)
    (hw1 : ∀ n ∈ st, (Lit.int .u64 n).wf = true) (hw2 : ∀ n ∈ lo, (Lit.int .u64 n).wf = true) (hl : n ≤ 8796093022208) (hl1 : n1 ≤ 17592186044416) (hl2 : n2 ≤ 17592186044416) :
    Calls Tryd.prog 4 #[.slice A n c, .agg #[.slice A1 n1 c1, .slice A2 n2 c2]] w (Tru w true) := by
  subst hnf
  obtain ⟨hb0, x0, x1⟩ := wbox w A1 A2 n1 c1 n2 c2
  obtain ⟨W0, hW0⟩ : ∃ W, W = w.alloc (.cells #[.slice A1 n1 c1, .slice A2 n2 c2] 35) := ⟨_, rfl⟩
  have hz0 : W0.heap.size = w.heap.size + 1 := by rw [hW0]; simp
  rw [← hW0] at hb0 x0 x1
  have HW0 := Lib.hid hW0
  have HW := Lib.hid (fun (w' : World) (hb : Below w.heap.size w w') => works29_any w' (tz_below hT hb))
  have HT := Lib.hid hT
  have HF := Lib.hid hf
  have HWD := Lib.hid (⟨hs, ht, h1, h2⟩ : WRd w w.heap.size A1 A2 n1 c1 n2 c2 st lo)
  have HBD := Lib.hid (fun k => (seq_bd hw1 hw2 k).1)
  have HLT := Lib.hid (fun k => wordN_lt hw1 hw2 k)
  have H1 := Lib.hid h1
  have H2 := Lib.hid h2
  clear hW0 hT hf hs ht hw1 hw2 h1 h2
  by_cases h13 : 13 < f.length
  · have gh13 : (13 : Int) < (f.length : Int) := by omega
    go_enter Tryd.func4, Tryd.ntmps4
    go_wp2_with fail
    rw [← HW0.out]
    refine Calls.mono (HW.out W0 hb0) ?_
    rintro e w1 ⟨rfl, hb1⟩
    go_wp2_with fail
    go_ret
    exact ⟨rfl, hb0.trans (hb1.mono hb0.size)⟩
  · have g13 : ¬ (13 : Int) < (f.length : Int) := by omega
    by_cases h81 : 8 < n1
    · have gh81 : (8 : Int) < (n1 : Int) := by omega
      go_enter Tryd.func4, Tryd.ntmps4
      go_wp2_with fail
      rw [← HW0.out]
      refine Calls.mono (HW.out W0 hb0) ?_
      rintro e w1 ⟨rfl, hb1⟩
      go_wp2_with fail
      go_ret
      exact ⟨rfl, hb0.trans (hb1.mono hb0.size)⟩
    · have g81 : ¬ (8 : Int) < (n1 : Int) := by omega
      by_cases h82 : 8 < n2
      · have gh82 : (8 : Int) < (n2 : Int) := by omega
        go_enter Tryd.func4, Tryd.ntmps4
        go_wp2_with fail
        rw [← HW0.out]
        refine Calls.mono (HW.out W0 hb0) ?_
        rintro e w1 ⟨rfl, hb1⟩
        go_wp2_with fail
        go_ret
        exact ⟨rfl, hb0.trans (hb1.mono hb0.size)⟩
      · have g82 : ¬ (8 : Int) < (n2 : Int) := by omega
        have HWC := Lib.hid (rCheck_any A1 A2 n1 c1 n2 c2 st lo W0 H1.out H2.out (by omega))
        by_cases hn2 : n2 = 0
        · rw [if_pos hn2] at HWC
          clear hn2
          go_enter Tryd.func4, Tryd.ntmps4
          go_wp2_with fail
          rw [← HW0.out]
          refine Calls.mono HWC.out ?_
          rintro e w1 ⟨rfl, hb1⟩
          go_wp2_with fail
          refine Calls.mono (HW.out w1 (hb0.trans (hb1.mono hb0.size))) ?_
          rintro e w2 ⟨rfl, hb2⟩
          go_wp2_with fail
          go_ret
          exact ⟨rfl, hb0.trans ((hb1.trans (hb2.mono hb1.size)).mono hb0.size)⟩
        · rw [if_neg hn2] at HWC
          have hlo : lo ≠ [] := by rintro rfl; exact hn2 H2.out
          have HLO := Lib.hid hlo
          have hn20 : 0 < n2 := by omega
          have HO := Lib.hid (fun (w' : World) (hb : Below w.heap.size w w') => tabOf_any A c f w' ((HF.out.below hb (Nat.le_refl _)).up hb.size) (tz_below HT.out hb) (by omega) (fun _ _ _ => by omega))
          clear hlo hn2
          by_cases hE : ofE f = 0
          · obtain ⟨L, rows, hN, h16, htab, hA⟩ := of_good hE
            rw [hE, hA] at HO
            have hchk := chk_tab hN h16 htab
            have hTok := tab_ok hN (isN_pos hN) htab
            have hnl := (tab_scan htab).2
            have hlens := tab_lens hN (by omega) htab
            have hu : (utl 0 f).length ≤ 64 := by rw [← utl_untils hN]; omega
            have hlaw : ∀ z, Gfp (prodE (tabA f L rows (List.range (firstL f).length)) (wordN st lo) st.length) (asksA (tabA f L rows (List.range (firstL f).length)) (wordN st lo).length) z → takesB (tabA f L rows (List.range (firstL f).length)) (wordN st lo) z = holdsW (wbit st lo) f st lo := fun z hz => takes_law hN hTok hu HLO.out HBD.out hz
            have hnl2 : (tabA f L rows (List.range (firstL f).length)).nodes.length ≤ 256 := by rw [tabA_len]; exact hnl
            obtain ⟨a, hae⟩ : ∃ a, tabA f L rows (List.range (firstL f).length) = a := ⟨_, rfl⟩
            rw [hae] at HO hchk hlens hlaw hnl2
            have HHD := Lib.hid (fun (w' : World) (hb : Below w.heap.size w w') => rHolds_any A A1 A2 c n1 c1 n2 c2 f st lo w' w.heap.size w.heap.size (HF.out.below hb (Nat.le_refl _)) (HWD.out.below hb (Nat.le_refl _)) hb.size hb.size (by omega) (by omega) HBD.out)
            obtain ⟨v, hv⟩ : ∃ v, holdsW (wbit st lo) f st lo = v := ⟨_, rfl⟩
            rw [hv] at HHD hlaw
            have HTK : Hid (∀ (Ai : Option Addr) (ni ci : Nat) (An : Option Addr) (nn cn : Nat) (w' : World) (B : Nat) (_ : AutRd w' B a Ai ni ci An nn cn) (_ : WRd w' B A1 A2 n1 c1 n2 c2 st lo) (_ : B ≤ w'.heap.size), Calls Tryd.prog 13 #[.agg #[.int .i64 a.sets, .slice Ai ni ci, .slice An nn cn], .agg #[.slice A1 n1 c1, .slice A2 n2 c2]] w' (Tru w' v)) :=
              Lib.hid (fun Ai ni ci An nn cn w' B h' hw' hB' => (takes30_any a Ai ni ci An nn cn A1 A2 n1 c1 n2 c2 st lo (wordN st lo) w' B h' hw' hB' hchk hn20 (by omega) (by rw [wordN_len, H1.out, H2.out]) (wordN_atW HBD.out) HLT.out (fun x hx => (hlens.2 x hx).2) 10000 (fun x hx => (hlens.2 x hx).1) hlens.1 (by
                have e : nn * (n1 + n2) ≤ 256 * 16 := Nat.mul_le_mul (by rw [h'.enn]; exact hnl2) (by omega)
                omega) (by omega)).mono (fun e w2 ⟨z, hz, he, hb⟩ => ⟨by rw [he, hlaw z (by rw [← H1.out]; exact hz)], hb⟩))
            have HNL := Lib.hid hnl2
            obtain ⟨s, hs⟩ : ∃ s, a.sets = s := ⟨_, rfl⟩
            rw [hs] at HTK
            have HS := Lib.hid hs
            clear hchk hTok hnl hlens hu hlaw hnl2 hae hv hE h16 htab hA hs hN
            go_enter Tryd.func4, Tryd.ntmps4
            go_wp2_with fail
            rw [← HW0.out]
            refine Calls.mono HWC.out ?_
            rintro e w1 ⟨rfl, hb1⟩
            have hb01 := hb0.trans (hb1.mono hb0.size)
            go_wp2_with fail
            refine Calls.mono (HO.out w1 hb01) ?_
            rintro e w2 ⟨Ai, ni, ci, An, nn, cn, rfl, hrd, hb2⟩
            rw [HS.out]
            have hb02 := hb01.trans (hb2.mono hb01.size)
            have hb3 : Below w2.heap.size w2 (w2.alloc (.cells #[.int .i64 s, .slice Ai ni ci, .slice An nn cn] 28)) := (Below.refl _ _).alloc (Nat.le_refl _) _
            have hx3 := heap_alloc_new w2 (.cells #[.int .i64 s, .slice Ai ni ci, .slice An nn cn] 28)
            have hz3 : (w2.alloc (.cells #[.int .i64 s, .slice Ai ni ci, .slice An nn cn] 28)).heap.size = w2.heap.size + 1 := by simp
            obtain ⟨W3, hW3⟩ : ∃ W3, w2.alloc (.cells #[.int .i64 s, .slice Ai ni ci, .slice An nn cn] 28) = W3 := ⟨_, rfl⟩
            rw [hW3] at hb3 hx3 hz3
            have HW3 := Lib.hid hW3
            have hnn : nn ≤ 256 := by rw [hrd.enn]; exact HNL.out
            have hnn' : (nn : Int) ≤ 256 := by omega
            have HRD := Lib.hid (hrd.below hb3 (Nat.le_refl _))
            have hb03 := hb02.trans (hb3.mono hb02.size)
            have q0 := ((hb1.trans (hb2.mono hb1.size)).trans (hb3.mono (hb1.trans (hb2.mono hb1.size)).size)).cell (p := ⟨w.heap.size, 0, none⟩) (show w.heap.size < W0.heap.size by omega)
            have q1 := ((hb1.trans (hb2.mono hb1.size)).trans (hb3.mono (hb1.trans (hb2.mono hb1.size)).size)).cell (p := ⟨w.heap.size, 1, none⟩) (show w.heap.size < W0.heap.size by omega)
            have p0 := q0.trans x0
            have p1 := q1.trans x1
            obtain ⟨k0, k1, k2⟩ := box3A hx3
            have hlw : w.heap.size < W3.heap.size := by have := hb0.size; have := hb1.size; have := hb2.size; omega
            have hlw2 : w2.heap.size < W3.heap.size := by omega
            have hbd : Below W3.heap.size W3 W3.drew := Below.drew (Below.refl _ _)
            have hzd := hbd.size
            have hz02 := hb02.size
            have HWR := Lib.hid (((HWD.out.below hb03 (Nat.le_refl _)).below hbd (by omega)).up hz02)
            have HRR := Lib.hid (HRD.out.below hbd (by omega))
            have HBD3 := Lib.hid hbd
            have HB03 := Lib.hid hb03
            have hz30 := hb03.size
            clear hW3 hrd hbd hb03 q0 q1 x0 x1 hb01 hb02 hb0 hb1 hb2 hb3 hx3
            go_wp2_with fail
            rw [HW3.out]
            cases v
            · skip
              refine wp_region_held_drew (S := fun w' => w'.cell? ⟨w2.heap.size, 0, none⟩ = some (.int .i64 s) ∧ w'.cell? ⟨w2.heap.size, 1, none⟩ = some (.slice Ai ni ci) ∧ w'.cell? ⟨w2.heap.size, 2, none⟩ = some (.slice An nn cn) ∧ w'.cell? ⟨w.heap.size, 0, none⟩ = some (.slice A1 n1 c1) ∧ w'.cell? ⟨w.heap.size, 1, none⟩ = some (.slice A2 n2 c2)) (by kernel_rfl) ⟨k0, k1, k2, p0, p1⟩ (fun hS => ?_)
              refine wpAnyH_takeD (i := 0) (v := ?_) rfl (by kernel_rfl) (by kernel_rfl) (by kernel_rfl) (fun _ _ _ h => h) (Or.inl ⟨by kernel_rfl, ?_⟩) hS ?_
              rotate_left 1
              · (intro w' hSw; (try dsimp only at hSw); go_simp; try (with_reducible rfl))
              try simp only [Act.put, List.setIfInBounds_toArray, List.set_cons_zero, List.set_cons_succ]
              refine wpAnyH_takeD (i := 1) (v := ?_) rfl (by kernel_rfl) (by kernel_rfl) (by kernel_rfl) (fun _ _ _ h => h) (Or.inl ⟨by kernel_rfl, ?_⟩) hS ?_
              rotate_left 1
              · (intro w' hSw; (try dsimp only at hSw); go_simp; try (with_reducible rfl))
              try simp only [Act.put, List.setIfInBounds_toArray, List.set_cons_zero, List.set_cons_succ]
              refine wpAnyH_takeD (i := 2) (v := ?_) rfl (by kernel_rfl) (by kernel_rfl) (by kernel_rfl) (fun _ _ _ h => h) (Or.inl ⟨by kernel_rfl, ?_⟩) hS ?_
              rotate_left 1
              · (intro w' hSw; (try dsimp only at hSw); go_simp; try (with_reducible rfl))
              try simp only [Act.put, List.setIfInBounds_toArray, List.set_cons_zero, List.set_cons_succ]
              refine wpAnyH_takeD (i := 3) (v := ?_) rfl (by kernel_rfl) (by kernel_rfl) (by kernel_rfl) (fun _ _ _ h => h) (Or.inl ⟨by kernel_rfl, ?_⟩) hS ?_
              rotate_left 1
              · (intro w' hSw; (try dsimp only at hSw); go_simp; try (with_reducible rfl))
              try simp only [Act.put, List.setIfInBounds_toArray, List.set_cons_zero, List.set_cons_succ]
              refine wpAnyH_takeD (i := 4) (v := ?_) rfl (by kernel_rfl) (by kernel_rfl) (by kernel_rfl) (fun _ _ _ h => h) (Or.inl ⟨by kernel_rfl, ?_⟩) hS ?_
              rotate_left 1
              · (intro w' hSw; (try dsimp only at hSw); go_simp; try (with_reducible rfl))
              try simp only [Act.put, List.setIfInBounds_toArray, List.set_cons_zero, List.set_cons_succ]
              refine wpAnyH_takeD (i := 5) (v := ?_) rfl (by kernel_rfl) (by kernel_rfl) (by kernel_rfl) (fun _ _ _ h => h) (Or.inl ⟨by kernel_rfl, ?_⟩) hS ?_
              rotate_left 1
              · (intro w' hSw; (try dsimp only at hSw); go_simp; try (with_reducible rfl))
              try simp only [Act.put, List.setIfInBounds_toArray, List.set_cons_zero, List.set_cons_succ]
              refine wpAnyH_takeD (i := 6) (v := ?_) rfl (by kernel_rfl) (by kernel_rfl) (by kernel_rfl) (fun _ _ _ h => h) (Or.inl ⟨by kernel_rfl, ?_⟩) hS ?_
              rotate_left 1
              · (intro w' hSw; (try dsimp only at hSw); go_simp; try (with_reducible rfl))
              try simp only [Act.put, List.setIfInBounds_toArray, List.set_cons_zero, List.set_cons_succ]
              refine wpAnyH_takeD (i := 8) (v := ?_) rfl (by kernel_rfl) (by kernel_rfl) (by kernel_rfl) (fun _ _ _ h => h) (Or.inl ⟨by kernel_rfl, ?_⟩) hS ?_
              rotate_left 1
              · (intro w' hSw; (try dsimp only at hSw); go_simp; try (with_reducible rfl))
              try simp only [Act.put, List.setIfInBounds_toArray, List.set_cons_zero, List.set_cons_succ]
              refine wpAnyH_takeD (i := 9) (v := ?_) rfl (by kernel_rfl) (by kernel_rfl) (by kernel_rfl) (fun _ _ _ h => h) (Or.inl ⟨by kernel_rfl, ?_⟩) hS ?_
              rotate_left 1
              · (intro w' hSw; (try dsimp only at hSw); go_simp; try (with_reducible rfl))
              try simp only [Act.put, List.setIfInBounds_toArray, List.set_cons_zero, List.set_cons_succ]
              refine wpAnyH_oneD (i := 7) rfl (by kernel_rfl) (fun K hK => ?_)
              go_simp
              refine (HTK.out Ai ni ci An nn cn W3.drew w2.heap.size HRR.out HWR.out (by omega)).mono ?_
              rintro e w4 ⟨rfl, hb4'⟩
              have hb4 : Below W3.heap.size W3 w4 := HBD3.out.trans (hb4'.mono hzd)
              clear hb4'
              dsimp only
              refine hK.out _ _ ⟨(hb4.cell (p := ⟨w2.heap.size, 0, none⟩) hlw2).trans k0, (hb4.cell (p := ⟨w2.heap.size, 1, none⟩) hlw2).trans k1, (hb4.cell (p := ⟨w2.heap.size, 2, none⟩) hlw2).trans k2, (hb4.cell (p := ⟨w.heap.size, 0, none⟩) hlw).trans p0, (hb4.cell (p := ⟨w.heap.size, 1, none⟩) hlw).trans p1⟩ (fun hS => ?_)
              clear hK
              try simp only [Act.put, List.setIfInBounds_toArray, List.set_cons_zero, List.set_cons_succ]
              refine wpAnyH_oneD (i := 10) rfl (by kernel_rfl) (fun K hK => ?_)
              go_simp
              refine (HHD.out w4 (HB03.out.trans (hb4.mono hz30))).mono ?_
              rintro e w5 ⟨rfl, hb5'⟩
              have hb5 : Below W3.heap.size W3 w5 := hb4.trans (hb5'.mono hb4.size)
              clear hb5'
              dsimp only
              refine hK.out _ _ ⟨(hb5.cell (p := ⟨w2.heap.size, 0, none⟩) hlw2).trans k0, (hb5.cell (p := ⟨w2.heap.size, 1, none⟩) hlw2).trans k1, (hb5.cell (p := ⟨w2.heap.size, 2, none⟩) hlw2).trans k2, (hb5.cell (p := ⟨w.heap.size, 0, none⟩) hlw).trans p0, (hb5.cell (p := ⟨w.heap.size, 1, none⟩) hlw).trans p1⟩ (fun hS => ?_)
              clear hK
              try simp only [Act.put, List.setIfInBounds_toArray, List.set_cons_zero, List.set_cons_succ]
              refine wpAnyH_takeD (i := 11) (v := ?_) rfl (by kernel_rfl) (by kernel_rfl) (by kernel_rfl) (fun _ _ _ h => h) (Or.inl ⟨by kernel_rfl, ?_⟩) hS ?_
              rotate_left 1
              · (intro w' hSw; (try dsimp only at hSw); go_simp; try (with_reducible rfl))
              try simp only [Act.put, List.setIfInBounds_toArray, List.set_cons_zero, List.set_cons_succ]
              refine wpAnyH_takeD (i := 12) (v := ?_) rfl (by kernel_rfl) (by kernel_rfl) (by kernel_rfl) (fun _ _ _ h => h) (Or.inl ⟨by kernel_rfl, ?_⟩) hS ?_
              rotate_left 1
              · (intro w' hSw; (try dsimp only at hSw); go_simp; try (with_reducible rfl))
              try simp only [Act.put, List.setIfInBounds_toArray, List.set_cons_zero, List.set_cons_succ]
              refine wpAnyH_takeD (i := 13) (v := ?_) rfl (by kernel_rfl) (by kernel_rfl) (by kernel_rfl) (fun _ _ _ h => h) (Or.inl ⟨by kernel_rfl, ?_⟩) hS ?_
              rotate_left 1
              · (intro w' hSw; (try dsimp only at hSw); go_simp; try (with_reducible rfl))
              try simp only [Act.put, List.setIfInBounds_toArray, List.set_cons_zero, List.set_cons_succ]
              refine wpAnyH_oneD (i := 14) rfl (by kernel_rfl) (fun K hK => ?_)
              go_simp
              refine (HW.out w5 (HB03.out.trans (hb5.mono hz30))).mono ?_
              rintro e w6 ⟨rfl, hb6'⟩
              have hb6 : Below W3.heap.size W3 w6 := hb5.trans (hb6'.mono hb5.size)
              clear hb6'
              dsimp only
              refine hK.out _ _ ⟨(hb6.cell (p := ⟨w2.heap.size, 0, none⟩) hlw2).trans k0, (hb6.cell (p := ⟨w2.heap.size, 1, none⟩) hlw2).trans k1, (hb6.cell (p := ⟨w2.heap.size, 2, none⟩) hlw2).trans k2, (hb6.cell (p := ⟨w.heap.size, 0, none⟩) hlw).trans p0, (hb6.cell (p := ⟨w.heap.size, 1, none⟩) hlw).trans p1⟩ (fun hS => ?_)
              clear hK
              try simp only [Act.put, List.setIfInBounds_toArray, List.set_cons_zero, List.set_cons_succ]
              refine wpAnyH_takeD (i := 15) (v := ?_) rfl (by kernel_rfl) (by kernel_rfl) (by kernel_rfl) (fun _ _ _ h => h) (Or.inl ⟨by kernel_rfl, ?_⟩) hS ?_
              rotate_left 1
              · (intro w' hSw; (try dsimp only at hSw); go_simp; try (with_reducible rfl))
              try simp only [Act.put, List.setIfInBounds_toArray, List.set_cons_zero, List.set_cons_succ]
              refine wpAnyH_takeD (i := 16) (v := ?_) rfl (by kernel_rfl) (by kernel_rfl) (by kernel_rfl) (fun _ _ _ h => h) (Or.inl ⟨by kernel_rfl, ?_⟩) hS ?_
              rotate_left 1
              · (intro w' hSw; (try dsimp only at hSw); go_simp; try (with_reducible rfl))
              try simp only [Act.put, List.setIfInBounds_toArray, List.set_cons_zero, List.set_cons_succ]
              refine wpAnyH_done (by kernel_rfl) ?_ _
              have hb06 := HB03.out.trans (hb6.mono hz30)
              clear hb4 hb5 hb6
              go_wp2_with fail
              go_ret
              exact ⟨rfl, hb06⟩
            · skip
              refine wp_region_held_drew (S := fun w' => w'.cell? ⟨w2.heap.size, 0, none⟩ = some (.int .i64 s) ∧ w'.cell? ⟨w2.heap.size, 1, none⟩ = some (.slice Ai ni ci) ∧ w'.cell? ⟨w2.heap.size, 2, none⟩ = some (.slice An nn cn) ∧ w'.cell? ⟨w.heap.size, 0, none⟩ = some (.slice A1 n1 c1) ∧ w'.cell? ⟨w.heap.size, 1, none⟩ = some (.slice A2 n2 c2)) (by kernel_rfl) ⟨k0, k1, k2, p0, p1⟩ (fun hS => ?_)
              refine wpAnyH_takeD (i := 0) (v := ?_) rfl (by kernel_rfl) (by kernel_rfl) (by kernel_rfl) (fun _ _ _ h => h) (Or.inl ⟨by kernel_rfl, ?_⟩) hS ?_
              rotate_left 1
              · (intro w' hSw; (try dsimp only at hSw); go_simp; try (with_reducible rfl))
              try simp only [Act.put, List.setIfInBounds_toArray, List.set_cons_zero, List.set_cons_succ]
              refine wpAnyH_takeD (i := 1) (v := ?_) rfl (by kernel_rfl) (by kernel_rfl) (by kernel_rfl) (fun _ _ _ h => h) (Or.inl ⟨by kernel_rfl, ?_⟩) hS ?_
              rotate_left 1
              · (intro w' hSw; (try dsimp only at hSw); go_simp; try (with_reducible rfl))
              try simp only [Act.put, List.setIfInBounds_toArray, List.set_cons_zero, List.set_cons_succ]
              refine wpAnyH_takeD (i := 2) (v := ?_) rfl (by kernel_rfl) (by kernel_rfl) (by kernel_rfl) (fun _ _ _ h => h) (Or.inl ⟨by kernel_rfl, ?_⟩) hS ?_
              rotate_left 1
              · (intro w' hSw; (try dsimp only at hSw); go_simp; try (with_reducible rfl))
              try simp only [Act.put, List.setIfInBounds_toArray, List.set_cons_zero, List.set_cons_succ]
              refine wpAnyH_takeD (i := 3) (v := ?_) rfl (by kernel_rfl) (by kernel_rfl) (by kernel_rfl) (fun _ _ _ h => h) (Or.inl ⟨by kernel_rfl, ?_⟩) hS ?_
              rotate_left 1
              · (intro w' hSw; (try dsimp only at hSw); go_simp; try (with_reducible rfl))
              try simp only [Act.put, List.setIfInBounds_toArray, List.set_cons_zero, List.set_cons_succ]
              refine wpAnyH_takeD (i := 4) (v := ?_) rfl (by kernel_rfl) (by kernel_rfl) (by kernel_rfl) (fun _ _ _ h => h) (Or.inl ⟨by kernel_rfl, ?_⟩) hS ?_
              rotate_left 1
              · (intro w' hSw; (try dsimp only at hSw); go_simp; try (with_reducible rfl))
              try simp only [Act.put, List.setIfInBounds_toArray, List.set_cons_zero, List.set_cons_succ]
              refine wpAnyH_takeD (i := 5) (v := ?_) rfl (by kernel_rfl) (by kernel_rfl) (by kernel_rfl) (fun _ _ _ h => h) (Or.inl ⟨by kernel_rfl, ?_⟩) hS ?_
              rotate_left 1
              · (intro w' hSw; (try dsimp only at hSw); go_simp; try (with_reducible rfl))
              try simp only [Act.put, List.setIfInBounds_toArray, List.set_cons_zero, List.set_cons_succ]
              refine wpAnyH_takeD (i := 6) (v := ?_) rfl (by kernel_rfl) (by kernel_rfl) (by kernel_rfl) (fun _ _ _ h => h) (Or.inl ⟨by kernel_rfl, ?_⟩) hS ?_
              rotate_left 1
              · (intro w' hSw; (try dsimp only at hSw); go_simp; try (with_reducible rfl))
              try simp only [Act.put, List.setIfInBounds_toArray, List.set_cons_zero, List.set_cons_succ]
              refine wpAnyH_takeD (i := 8) (v := ?_) rfl (by kernel_rfl) (by kernel_rfl) (by kernel_rfl) (fun _ _ _ h => h) (Or.inl ⟨by kernel_rfl, ?_⟩) hS ?_
              rotate_left 1
              · (intro w' hSw; (try dsimp only at hSw); go_simp; try (with_reducible rfl))
              try simp only [Act.put, List.setIfInBounds_toArray, List.set_cons_zero, List.set_cons_succ]
              refine wpAnyH_takeD (i := 9) (v := ?_) rfl (by kernel_rfl) (by kernel_rfl) (by kernel_rfl) (fun _ _ _ h => h) (Or.inl ⟨by kernel_rfl, ?_⟩) hS ?_
              rotate_left 1
              · (intro w' hSw; (try dsimp only at hSw); go_simp; try (with_reducible rfl))
              try simp only [Act.put, List.setIfInBounds_toArray, List.set_cons_zero, List.set_cons_succ]
              refine wpAnyH_oneD (i := 7) rfl (by kernel_rfl) (fun K hK => ?_)
              go_simp
              refine (HTK.out Ai ni ci An nn cn W3.drew w2.heap.size HRR.out HWR.out (by omega)).mono ?_
              rintro e w4 ⟨rfl, hb4'⟩
              have hb4 : Below W3.heap.size W3 w4 := HBD3.out.trans (hb4'.mono hzd)
              clear hb4'
              dsimp only
              refine hK.out _ _ ⟨(hb4.cell (p := ⟨w2.heap.size, 0, none⟩) hlw2).trans k0, (hb4.cell (p := ⟨w2.heap.size, 1, none⟩) hlw2).trans k1, (hb4.cell (p := ⟨w2.heap.size, 2, none⟩) hlw2).trans k2, (hb4.cell (p := ⟨w.heap.size, 0, none⟩) hlw).trans p0, (hb4.cell (p := ⟨w.heap.size, 1, none⟩) hlw).trans p1⟩ (fun hS => ?_)
              clear hK
              try simp only [Act.put, List.setIfInBounds_toArray, List.set_cons_zero, List.set_cons_succ]
              refine wpAnyH_oneD (i := 10) rfl (by kernel_rfl) (fun K hK => ?_)
              go_simp
              refine (HHD.out w4 (HB03.out.trans (hb4.mono hz30))).mono ?_
              rintro e w5 ⟨rfl, hb5'⟩
              have hb5 : Below W3.heap.size W3 w5 := hb4.trans (hb5'.mono hb4.size)
              clear hb5'
              dsimp only
              refine hK.out _ _ ⟨(hb5.cell (p := ⟨w2.heap.size, 0, none⟩) hlw2).trans k0, (hb5.cell (p := ⟨w2.heap.size, 1, none⟩) hlw2).trans k1, (hb5.cell (p := ⟨w2.heap.size, 2, none⟩) hlw2).trans k2, (hb5.cell (p := ⟨w.heap.size, 0, none⟩) hlw).trans p0, (hb5.cell (p := ⟨w.heap.size, 1, none⟩) hlw).trans p1⟩ (fun hS => ?_)
              clear hK
              try simp only [Act.put, List.setIfInBounds_toArray, List.set_cons_zero, List.set_cons_succ]
              refine wpAnyH_takeD (i := 11) (v := ?_) rfl (by kernel_rfl) (by kernel_rfl) (by kernel_rfl) (fun _ _ _ h => h) (Or.inl ⟨by kernel_rfl, ?_⟩) hS ?_
              rotate_left 1
              · (intro w' hSw; (try dsimp only at hSw); go_simp; try (with_reducible rfl))
              try simp only [Act.put, List.setIfInBounds_toArray, List.set_cons_zero, List.set_cons_succ]
              refine wpAnyH_takeD (i := 12) (v := ?_) rfl (by kernel_rfl) (by kernel_rfl) (by kernel_rfl) (fun _ _ _ h => h) (Or.inl ⟨by kernel_rfl, ?_⟩) hS ?_
              rotate_left 1
              · (intro w' hSw; (try dsimp only at hSw); go_simp; try (with_reducible rfl))
              try simp only [Act.put, List.setIfInBounds_toArray, List.set_cons_zero, List.set_cons_succ]
              refine wpAnyH_takeD (i := 13) (v := ?_) rfl (by kernel_rfl) (by kernel_rfl) (by kernel_rfl) (fun _ _ _ h => h) (Or.inl ⟨by kernel_rfl, ?_⟩) hS ?_
              rotate_left 1
              · (intro w' hSw; (try dsimp only at hSw); go_simp; try (with_reducible rfl))
              try simp only [Act.put, List.setIfInBounds_toArray, List.set_cons_zero, List.set_cons_succ]
              refine wpAnyH_oneD (i := 14) rfl (by kernel_rfl) (fun K hK => ?_)
              go_simp
              refine (HW.out w5 (HB03.out.trans (hb5.mono hz30))).mono ?_
              rintro e w6 ⟨rfl, hb6'⟩
              have hb6 : Below W3.heap.size W3 w6 := hb5.trans (hb6'.mono hb5.size)
              clear hb6'
              dsimp only
              refine hK.out _ _ ⟨(hb6.cell (p := ⟨w2.heap.size, 0, none⟩) hlw2).trans k0, (hb6.cell (p := ⟨w2.heap.size, 1, none⟩) hlw2).trans k1, (hb6.cell (p := ⟨w2.heap.size, 2, none⟩) hlw2).trans k2, (hb6.cell (p := ⟨w.heap.size, 0, none⟩) hlw).trans p0, (hb6.cell (p := ⟨w.heap.size, 1, none⟩) hlw).trans p1⟩ (fun hS => ?_)
              clear hK
              try simp only [Act.put, List.setIfInBounds_toArray, List.set_cons_zero, List.set_cons_succ]
              refine wpAnyH_takeD (i := 15) (v := ?_) rfl (by kernel_rfl) (by kernel_rfl) (by kernel_rfl) (fun _ _ _ h => h) (Or.inl ⟨by kernel_rfl, ?_⟩) hS ?_
              rotate_left 1
              · (intro w' hSw; (try dsimp only at hSw); go_simp; try (with_reducible rfl))
              try simp only [Act.put, List.setIfInBounds_toArray, List.set_cons_zero, List.set_cons_succ]
              refine wpAnyH_takeD (i := 16) (v := ?_) rfl (by kernel_rfl) (by kernel_rfl) (by kernel_rfl) (fun _ _ _ h => h) (Or.inl ⟨by kernel_rfl, ?_⟩) hS ?_
              rotate_left 1
              · (intro w' hSw; (try dsimp only at hSw); go_simp; try (with_reducible rfl))
              try simp only [Act.put, List.setIfInBounds_toArray, List.set_cons_zero, List.set_cons_succ]
              refine wpAnyH_done (by kernel_rfl) ?_ _
              have hb06 := HB03.out.trans (hb6.mono hz30)
              clear hb4 hb5 hb6
              go_wp2_with fail
              go_ret
              exact ⟨rfl, hb06⟩
          · obtain ⟨E, hEe⟩ : ∃ E, ofE f = E := ⟨_, rfl⟩
            obtain ⟨a, hae⟩ : ∃ a, ofA f = a := ⟨_, rfl⟩
            rw [hEe] at HO hE
            rw [hae] at HO
            have dE : (E != 0) = true := bne_iff_ne.2 hE
            clear hEe hae hE
            go_enter Tryd.func4, Tryd.ntmps4
            go_wp2_with fail
            rw [← HW0.out]
            refine Calls.mono HWC.out ?_
            rintro e w1 ⟨rfl, hb1⟩
            have hb01 := hb0.trans (hb1.mono hb0.size)
            go_wp2_with fail
            refine Calls.mono (HO.out w1 hb01) ?_
            rintro e w2 ⟨Ai, ni, ci, An, nn, cn, rfl, hrd, hb2⟩
            have hb02 := hb01.trans (hb2.mono hb01.size)
            have hb03 : Below w.heap.size w (w2.alloc (.cells #[.int .i64 a.sets, .slice Ai ni ci, .slice An nn cn] 28)) := hb02.alloc hb02.size _
            clear hrd
            go_wp2_with fail
            refine Calls.mono (HW.out _ hb03) ?_
            rintro e w4 ⟨rfl, hb4⟩
            go_wp2_with fail
            go_ret
            exact ⟨rfl, hb03.trans (hb4.mono hb03.size)⟩
end Go.Proofs.YtamhjgkigjpbhaaDoor
