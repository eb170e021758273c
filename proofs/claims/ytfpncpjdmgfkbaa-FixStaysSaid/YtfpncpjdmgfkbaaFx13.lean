/- The walk of fix's reference: Fair. -/
import Derived.Test.YtfpncpjdmgfkbaaFx12
namespace Go.Proofs.Ytfpncpjdmgfkbaa
open Go.RowKit

theorem stepZ_congr {E : List (List Nd)} {z : List Bool} {p q : Nat → Bool} (h : ∀ k, k < z.length → p k = q k) : stepZ E z p = stepZ E z q := by
  have : goalZ z p = goalZ z q := by
    unfold goalZ
    refine List.map_congr_left (fun i hi => ?_)
    rw [h i (List.mem_range.1 hi)]
  rw [stepZ, stepZ, this]
theorem askOf_all {n k : Nat} (h : k < n) : askOf (List.replicate n true) k = true := by
  rw [askOf, hasB_nat (by simpa using h)]; simp [List.getD, h]
def asksR (sets : List (List Bool)) : List (Nat → Bool) := (fun _ => true) :: sets.map askOf
theorem gfp_asksR {E : List (List Nd)} {sets : List (List Bool)} {z : List Bool} (h : Gfp E (asksR sets) z) : Gfp E (asksOf sets) z := by
  unfold asksOf
  split
  · rename_i e; subst e; exact h
  · rename_i e; exact (gfp_true (by simpa using e)).1 h
theorem asksR_zero {E : List (List Nd)} {sets : List (List Bool)} {z : List Bool} : roundZ E ((asksR sets).take 0) z = z := rfl
theorem asksR_succ {E : List (List Nd)} {sets : List (List Bool)} {n k : Nat} {z : List Bool} (hz : z.length = n) (hk : k < sets.length + 1) :
    roundZ E ((asksR sets).take (k + 1)) z = stepZ E (roundZ E ((asksR sets).take k) z) (askOf ((List.replicate n true :: sets)[k]'(by simpa using hk))) := by
  cases k with
  | zero =>
    show stepZ E z (fun _ => true) = stepZ E z (askOf (List.replicate n true))
    exact stepZ_congr (fun k hk => (askOf_all (by omega)).symm)
  | succ k =>
    have hk' : k < sets.length := by omega
    rw [take_snoc (asksR sets) (k + 1) (by simp [asksR]; omega), roundZ, List.foldl_append]
    show stepZ E _ ((asksR sets)[k + 1]'(by simp [asksR]; omega)) = _
    congr 1
    simp [asksR]
theorem lessB_false {y z : List Bool} {n : Nat} (hn : n = y.length) (h : lessB y z n = false) : SubB y z := by
  intro i hi
  have hil := getD_lt hi
  rw [lessB, List.any_eq_false] at h
  have := h i (List.mem_range.2 (by omega))
  rw [hi] at this
  simpa using this
theorem lessB_true {y z : List Bool} {n : Nat} (h : lessB y z n = true) : z ≠ y := by
  rintro rfl
  rw [lessB, List.any_eq_true] at h
  obtain ⟨i, _, hi⟩ := h
  cases hz : z.getD i false <;> rw [hz] at hi <;> simp at hi
theorem sliceRowsB : SliceT Try.prog 47 35 1 24 :=
  SliceT.mk (z := .slice none 0 0) Try.underlying47 (by kernel_rfl) (by decide) (by decide)

section
variable (ai ae al : Option Addr) (ni ci ne ce nl cl : Nat)
set_option maxHeartbeats 4000000 in
set_option maxRecDepth 100000 in
theorem rfair_any (G : Gph) (sets : List (List Bool)) (As : Option Addr) (ns cs : Nat) (zg : List Bool) (w : World) (B : Nat) (h : GrRd w B ai ni ci ae ne ce al nl cl G) (hs : Sl2 w B 1 As ns cs (sets.map bcells)) (hzg : Gfp G.edges (asksOf sets) zg) (hB : B ≤ w.heap.size) (he : ne ≤ 65536) (K : Nat) (hr : ∀ l ∈ G.edges, l.length ≤ K) (hK2 : K ≤ 1000) (hns : ns ≤ 1000000) :
    Calls Try.prog 38 #[.agg #[.slice ai ni ci, .slice ae ne ce, .slice al nl cl], .slice As ns cs] w (NewRow w 4 1 ne (bcells zg) False) := by
  obtain ⟨w0, hw0, hb0, hz0, hx0, hx1, hx2⟩ := boxed3 w (.slice ai ni ci) (.slice ae ne ce) (.slice al nl cl) 26
  have HW0 := Lib.hid hw0
  have h' := h.below hb0 hB
  have hs' := hs.below hb0 hB
  have HLE := Lib.hid h.lens.2.1
  have hzg := Lib.hid hzg
  have hzl : w.heap.size < w0.heap.size := by omega
  have HSN : Hid (ns = sets.length) := Lib.hid (by have := hs.len; simpa using this)
  have HX := Lib.hid (And.intro hx0 (And.intro hx1 hx2))
  have HFI := fun W => Lib.hid (fill_any ne W (by omega))
  clear hw0 h hs
  go_enter Try.func38, Try.ntmps38
  go_wp2_with fail
  rw [← HW0.out]
  refine (HFI w0).out.mono ?_
  rintro e w1 ⟨v1, rfl, hO1, hb1, hnn1⟩
  have hz1 := hb1.size
  have g1 := (hb1.cell (p := ⟨w.heap.size, 1, none⟩) hzl).trans hx1
  clear hx0 hx1 hx2
  go_wp2_with fail
  refine (HFI w1).out.mono ?_
  rintro e w2 ⟨v2, rfl, hO2, hb2, _⟩
  obtain ⟨Af, cf, rfl, hsf⟩ := own_sl hO2
  have hz2 := hb2.size
  have hbw2 : Below w0.heap.size w0 w2 := hb1.trans (hb2.mono hz1)
  have hs2 := hs'.below hbw2 (by omega)
  obtain ⟨vs, hsv, hvl, hvr⟩ := hs2
  have hvone : ∀ u ∈ vs, u.oneCell' = true := by
    intro u hu
    obtain ⟨j, hj⟩ := List.getElem?_of_mem hu
    have hjl := (List.getElem?_eq_some_iff.1 hj).1
    obtain ⟨A', n', c', h1, _⟩ := hvr j (sets.map bcells)[j] (List.getElem?_eq_getElem (by omega))
    rw [hj] at h1; cases h1; rfl
  have hlit : (w2.alloc (.cells #[.slice Af ne cf] 35)).ownsRow w2.heap.size 35 1 (.slice (some ⟨w2.heap.size, 0, none⟩) 1 1) 1 [.slice Af ne cf] :=
    own_block (by rw [heap_alloc_new]) rfl (Nat.le_refl _) (by unfold maxLen; omega)
  have hsv2 := hsv.below ((Below.refl w2.heap.size w2).alloc (Nat.le_refl _) (.cells #[.slice Af ne cf] 35)) (by omega)
  have HVS := Lib.hid (And.intro hvl (And.intro hvr hsv))
  have HVO := Lib.hid hvone
  have HSF := Lib.hid hsf
  have hbA : Below w2.heap.size w2 (w2.alloc (.cells #[.slice Af ne cf] 35)) := (Below.refl _ _).alloc (Nat.le_refl _) _
  clear HFI g1 hO2 hvone hsf hvr hvl hsv hs' HW0
  go_wp2_with (at_builtin; refine wpList_extend rfl (.tmp 17) (.tmp 18) 47 rfl w2.heap.size 35 1 24 sliceRowsB _ _ _ hlit rfl B As ns cs vs rfl hsv2 HVO.out (by omega) (by omega) (by simp) ?_; intro v3 w3 hO3 ht3 hat3 _)
  have hb23 : Below w2.heap.size w2 w3 := hbA.trans (ht3.below (by simp) (fun k hk e => by simp [Value.ownBlock] at e; omega))
  obtain ⟨Aa, ca, rfl, hsa⟩ := own_sl hO3
  have hz3 := hb23.size
  have hbw3 : Below w0.heap.size w0 w3 := hbw2.trans (hb23.mono (by omega))
  have hall : Sl2 w3 w3.heap.size 1 Aa (1 + ns) ca ((List.replicate ne true :: sets).map bcells) := by
    refine ⟨.slice Af ne cf :: vs, hsa, by simp [HVS.out.1], fun j ys hj => ?_⟩
    cases j with
    | zero =>
      simp at hj
      subst hj
      exact ⟨Af, ne, cf, rfl, (HSF.out.below hb23 (Nat.le_refl _)).up (by omega)⟩
    | succ j =>
      simp only [List.map_cons, List.getElem?_cons_succ] at hj
      obtain ⟨A', n', c', h1, h2⟩ := HVS.out.2.1 j ys hj
      exact ⟨A', n', c', by simpa using h1, (h2.below hb23 (by omega)).up (by omega)⟩
  have hO13 : w3.ownsRow w0.heap.size 4 1 v1 ne (bcells (List.replicate ne true)) := own_below (own_below hO1 hb2) hb23
  have hv1 : v1 ≠ .slice none 0 0 := fun h => hnn1.1 h
  have HI0 : Hid (GInv G.edges (asksR sets) (List.replicate ne true)) := Lib.hid (by have := GInv.start G.edges (asksR sets); rwa [← HLE.out] at this)
  have HO13 := Lib.hid hO13
  have HALL := Lib.hid hall
  clear hO1 hO3 ht3 hat3 hsa hlit hsv2 hnn1 HVS HVO HSF hbA hO13 hall
  go_wp2
  go_loopg [5, 7, 8] ne (fun gk l _ _ wr => ∃ z : List Bool, wr.ownsRow w0.heap.size 4 1 l ne (bcells z) ∧ l ≠ .slice none 0 0 ∧ Hid (GInv G.edges (asksR sets) z) ∧ Hid (cntB z ≤ gk) ∧ Below w3.heap.size w3 wr)
  case atStart => exact ⟨List.replicate ne true, HO13.out, hv1, HI0, Lib.hid (cntB_all ne), Below.refl _ _⟩
  case round =>
    clear HO13 HI0 hv1
    obtain ⟨z, hO, hnn, HI, HC, hbr⟩ := hrel
    obtain ⟨wp, rfl⟩ : ∃ wp : World, wp = wr := ⟨_, rfl⟩
    obtain ⟨Az, cz, rfl, hsz⟩ := own_sl hO
    have hzn : ne = z.length := by have := hO.1; simpa [bcells] using this.symm
    have hszr := hbr.size
    have HZN := Lib.hid hzn
    have HO := Lib.hid hO
    have HSZ := Lib.hid hsz
    clear hzn hO hsz
    go_wp2
    go_loopw [7, 8] (fun l i wr => ∃ (k : Nat) (z1 : List Bool), k ≤ 1 + ns ∧ i = .int .i64 k ∧ wr.ownsRow w0.heap.size 4 1 l ne (bcells z1) ∧ l ≠ .slice none 0 0 ∧ Hid (z1 = roundZ G.edges ((asksR sets).take k) z) ∧ Below wp.heap.size wp wr) (fun _ i _ => 1 + ns - (intOf i).toNat)
    case atStart => exact ⟨0, z, by omega, rfl, HO.out, hnn, Lib.hid rfl, Below.refl _ _⟩
    case round =>
      obtain ⟨k, z1, hk, rfl, hO1, hnn1, HZ1, hbx⟩ := hrel
      obtain ⟨Al, cl1, rfl, hsl⟩ := own_sl hO1
      have hbx3 : Below w3.heap.size w3 wr := hbr.trans (hbx.mono hszr)
      have hbx0 : Below w0.heap.size w0 wr := hbw3.trans (hbx3.mono (by omega))
      have hz1n : ne = z1.length := by have := hO1.1; simpa [bcells] using this.symm
      have hszx := hbx3.size
      have hzlx : w.heap.size < wr.heap.size := by omega
      have HZ1N := Lib.hid hz1n
      clear hz1n
      by_cases hlt : k < 1 + ns
      · have hkS : k < (List.replicate ne true :: sets).length := by rw [List.length_cons, ← HSN.out]; omega
        obtain ⟨b, o, A', n', c', hAe, hbb, hc0, hrow⟩ := HALL.out.at_ (j := k) (ys := bcells (List.replicate ne true :: sets)[k]) (by rw [List.getElem?_map, List.getElem?_eq_getElem hkS]; rfl)
        subst hAe
        have hc := (hbx3.cell (p := ⟨b, o + k, none⟩) hbb).trans hc0
        have hn' : n' = ((List.replicate ne true :: sets)[k]).length := by have := hrow.len; simpa [bcells] using this.symm
        have hrt := asksR_succ (E := G.edges) (sets := sets) (n := ne) (z := z) HZN.out.symm (k := k) (by rw [← HSN.out]; omega)
        generalize (List.replicate ne true :: sets)[k] = s at *
        have HRT := Lib.hid hrt
        have hbd : Below wr.heap.size wr wr.drew := Below.drew (Below.refl _ _)
        have x0 := (hbx0.cell (p := ⟨w.heap.size, 0, none⟩) hzl).trans HX.out.1
        have x1 := (hbx0.cell (p := ⟨w.heap.size, 1, none⟩) hzl).trans HX.out.2.1
        have x2 := (hbx0.cell (p := ⟨w.heap.size, 2, none⟩) hzl).trans HX.out.2.2
        have HST := Lib.hid (behind_any ai ae al ni ci ne ce nl cl G z1 Al cl1 s A' n' c' wr.drew wr.heap.size ((h'.below (hbx0.trans (hbd.mono (by omega))) (by omega)).up (by omega)) (hsl.below hbd (Nat.le_refl _)) HZ1N.out ((hrow.below (hbx3.trans (hbd.mono (by omega))) (by omega)).up (by omega)) hn' (Nat.le_refl _) he K hr hK2)
        have j0 : (0 : Int) ≤ (k : Int) := by omega
        have j1 : (k : Int) < ((1 + ns : Nat) : Int) := by omega
        clear hsl hn' hO1 hrt hrow hc0
        go_wp2_with fail
        refine wp_region_held_drew (S := fun w' => w'.cell? ⟨w.heap.size, 0, none⟩ = some (.slice ai ni ci) ∧ w'.cell? ⟨w.heap.size, 1, none⟩ = some (.slice ae ne ce) ∧ w'.cell? ⟨w.heap.size, 2, none⟩ = some (.slice al nl cl) ∧ w'.cell? ⟨b, o + k, none⟩ = some (.slice A' n' c')) (by kernel_rfl) ⟨x0, x1, x2, hc⟩ (fun hS => ?_)
        refine wpAnyH_takeD (i := 0) (v := ?_) rfl (by kernel_rfl) (by kernel_rfl) (by kernel_rfl) (fun _ _ _ h => h) (Or.inl ⟨by kernel_rfl, ?_⟩) hS ?_
        rotate_left 1
        · (intro w' hSw; (try dsimp only at hSw); go_simp; try (with_reducible rfl))
        try simp only [Act.put, List.setIfInBounds_toArray, List.set_cons_zero, List.set_cons_succ]
        refine wpAnyH_takeD (i := 1) (v := ?_) rfl (by kernel_rfl) (by kernel_rfl) (by kernel_rfl) (fun _ _ _ h => h) (Or.inl ⟨by kernel_rfl, ?_⟩) hS ?_
        rotate_left 1
        · (intro w' hSw; (try dsimp only at hSw); go_simp; try (with_reducible rfl))
        try simp only [Act.put, List.setIfInBounds_toArray, List.set_cons_zero, List.set_cons_succ]
        refine wpAnyH_takeD (i := 2) (v := ?_) rfl (by kernel_rfl) (by kernel_rfl) (by kernel_rfl) (fun _ _ _ h => h) (Or.inl ⟨by kernel_rfl, ?_⟩) hS ?_
        rotate_left 1
        · (intro w' hSw; (try dsimp only at hSw); go_simp; try (with_reducible rfl))
        try simp only [Act.put, List.setIfInBounds_toArray, List.set_cons_zero, List.set_cons_succ]
        refine wpAnyH_takeD (i := 3) (v := ?_) rfl (by kernel_rfl) (by kernel_rfl) (by kernel_rfl) (fun _ _ _ h => h) (Or.inl ⟨by kernel_rfl, ?_⟩) hS ?_
        rotate_left 1
        · (intro w' hSw; (try dsimp only at hSw); go_simp; try (with_reducible rfl))
        try simp only [Act.put, List.setIfInBounds_toArray, List.set_cons_zero, List.set_cons_succ]
        refine wpAnyH_takeD (i := 4) (v := ?_) rfl (by kernel_rfl) (by kernel_rfl) (by kernel_rfl) (fun _ _ _ h => h) (Or.inl ⟨by kernel_rfl, ?_⟩) hS ?_
        rotate_left 1
        · (intro w' hSw; (try dsimp only at hSw); go_simp; try (with_reducible rfl))
        try simp only [Act.put, List.setIfInBounds_toArray, List.set_cons_zero, List.set_cons_succ]
        refine wpAnyH_takeD (i := 5) (v := ?_) rfl (by kernel_rfl) (by kernel_rfl) (by kernel_rfl) (fun _ _ _ h => h) (Or.inl ⟨by kernel_rfl, ?_⟩) hS ?_
        rotate_left 1
        · (intro w' hSw; (try dsimp only at hSw); go_simp; try (with_reducible rfl))
        try simp only [Act.put, List.setIfInBounds_toArray, List.set_cons_zero, List.set_cons_succ]
        refine wpAnyH_oneD (i := 6) rfl (by kernel_rfl) (fun K hK => ?_)
        go_simp
        refine HST.out.mono ?_
        rintro e w4 ⟨v4, rfl, hO4, hb4', hnn4⟩
        have hb4 : Below wr.heap.size wr w4 := below_undrew hb4'
        have k0 := (hb4.cell (p := ⟨w.heap.size, 0, none⟩) hzlx).trans x0
        have k1 := (hb4.cell (p := ⟨w.heap.size, 1, none⟩) hzlx).trans x1
        have k2 := (hb4.cell (p := ⟨w.heap.size, 2, none⟩) hzlx).trans x2
        have k3 := (hb4.cell (p := ⟨b, o + k, none⟩) (show b < wr.heap.size by omega)).trans hc
        go_wp2_with fail
        refine hK.out _ _ ⟨k0, k1, k2, k3⟩ (fun hS => ?_)
        clear hK
        try simp only [Act.put, List.setIfInBounds_toArray, List.set_cons_zero, List.set_cons_succ]
        refine wpAnyH_takeD (i := 7) (v := ?_) rfl (by kernel_rfl) (by kernel_rfl) (by kernel_rfl) (fun _ _ _ h => h) (Or.inl ⟨by kernel_rfl, ?_⟩) hS ?_
        rotate_left 1
        · (intro w' hSw; (try dsimp only at hSw); go_simp; try (with_reducible rfl))
        try simp only [Act.put, List.setIfInBounds_toArray, List.set_cons_zero, List.set_cons_succ]
        refine wpAnyH_done (by kernel_rfl) ?_ _
        have HO4 := Lib.hid (own_base hO4 (show w0.heap.size ≤ wr.heap.size by omega))
        have HB4 := Lib.hid (hbx.trans (hb4.mono hbx.size))
        have hn4 : v4 ≠ .slice none 0 0 := fun h => hnn4.1 h
        clear HST hO4 hb4 hb4' hnn4 x0 x1 x2 hc k0 k1 k2 k3
        go_wp2
        go_roundw
        case rel => exact ⟨k + 1, _, by omega, by go_num, HO4.out, hn4, Lib.hid (by rw [HRT.out, ← HZ1.out]), HB4.out⟩
        case measure => simp [intOf]; omega
      · have hkn : k = 1 + ns := by omega
        have HZR : Hid (z1 = roundZ G.edges (asksR sets) z) := Lib.hid (by
          have := HZ1.out
          rw [List.take_of_length_le (by simp [asksR, ← HSN.out]; omega)] at this
          exact this)
        have HE := Lib.hid (less_any Az Al ne cz cl1 z z1 wr _ _ (HSZ.out.below hbx (Nat.le_refl _)) hsl HZN.out HZ1N.out (by omega))
        have HO1 := Lib.hid hO1
        have HOZ := Lib.hid (own_below HO.out hbx)
        have HB3 := Lib.hid hbx3
        have HB1 := Lib.hid hbx0
        clear hkn hsl hO1 hbx0 hbx3
        cases hls : lessB z z1 ne
        · have HLS := Lib.hid hls
          have HGF : Hid (z = zg) := Lib.hid ((gfp_asksR (HI.out.done (by rw [← HZR.out]; exact lessB_false HZN.out hls))).uniq hzg.out)
          clear hls
          go_wp2_with fail
          refine HE.out.mono ?_
          rw [HLS.out]
          rintro e w5 ⟨rfl, hb5⟩
          have HB5 := Lib.hid (HB1.out.trans (hb5.mono (by omega)))
          have HO5 := Lib.hid (own_below HOZ.out hb5)
          clear hb5
          go_wp2
          go_ret
          exact ⟨_, rfl, by rw [← HGF.out]; exact own_base HO5.out (by omega), hb0.trans (HB5.out.mono (by omega)), ⟨fun h => absurd h hnn, False.elim⟩⟩
        · have HLS := Lib.hid hls
          have HCL : Hid (cntB z1 < gk) := Lib.hid (Nat.lt_of_lt_of_le (by rw [HZR.out]; exact cntB_round HI.out.1 (by rw [← HZR.out]; exact lessB_true hls)) HC.out)
          clear hls
          go_wp2_with fail
          refine HE.out.mono ?_
          rw [HLS.out]
          rintro e w5 ⟨rfl, hb5⟩
          have HB5 := Lib.hid (HB3.out.trans (hb5.mono (by omega)))
          have HO5 := Lib.hid (own_below HO1.out hb5)
          have HI1 := Lib.hid (HI.out.round)
          rw [← HZR.out] at HI1
          clear hb5
          go_wp2
          go_roundg (cntB z1)
          case measure => exact HCL.out
          case rel => exact ⟨z1, HO5.out, hnn1, HI1, Lib.hid (Nat.le_refl _), HB5.out⟩
end
end Go.Proofs.Ytfpncpjdmgfkbaa
