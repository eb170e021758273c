/- The walk of the reference's Same of layer 6. -/
import Derived.Test.YtfpncpjdmgfkbaaGr4
import Derived.Test.YtfpncpjdmgfkbaaMd
namespace Go.Proofs.Ytfpncpjdmgfkbaa
open Go.RowKit

section
variable (ai ae al : Option Addr) (ni ci ne ce nl cl : Nat) (bi be bl : Option Addr) (mi di me de ml dl : Nat)

set_option maxHeartbeats 8000000 in
set_option maxRecDepth 100000 in
theorem sameR_any (G H : Gph) (w : World) (B : Nat) (h : GrRd w B ai ni ci ae ne ce al nl cl G) (k : GrRd w B bi mi di be me de bl ml dl H) (hB : B ≤ w.heap.size) (hi : ni ≤ 100000000000) (he : ne ≤ 100000000000) (hl : nl ≤ 100000000000) (hr : ∀ l ∈ G.edges, l.length ≤ 100000000000) :
    Calls Try.prog 20 #[.agg #[.slice ai ni ci, .slice ae ne ce, .slice al nl cl], .agg #[.slice bi mi di, .slice be me de, .slice bl ml dl]] w (Tru w (sameG G H)) := by
  obtain ⟨L1, L2, L3⟩ := h.lens
  obtain ⟨M1, M2, M3⟩ := k.lens
  obtain ⟨w0, hw0, hb0, hz0, hx0, hx1, hx2⟩ := boxed3 w (.slice ai ni ci) (.slice ae ne ce) (.slice al nl cl) 26
  obtain ⟨w1, hw1, hb1, hz1, hy0, hy1, hy2⟩ := boxed3 w0 (.slice bi mi di) (.slice be me de) (.slice bl ml dl) 26
  have hbA := hb0.trans (hb1.mono (by omega))
  have h' := h.below hbA hB
  have k' := k.below hbA hB
  have E1 := fun (w' : World) (hb : Below w1.heap.size w1 w') => intsR_any ai bi ni ci mi di G.init H.init w' B B (h'.hi.below hb (by omega)) (k'.hi.below hb (by omega)) L1 M1 (by omega)
  have hx1 := (hb1.cell (p := ⟨w.heap.size, 1, none⟩) (show w.heap.size < w0.heap.size by omega)).trans hx1
  have hx2 := (hb1.cell (p := ⟨w.heap.size, 2, none⟩) (show w.heap.size < w0.heap.size by omega)).trans hx2
  have hx0 := (hb1.cell (p := ⟨w.heap.size, 0, none⟩) (show w.heap.size < w0.heap.size by omega)).trans hx0
  rw [hz0] at hy0 hy1 hy2
  have HW0 := Lib.hid hw0
  have HW1 := Lib.hid hw1
  have HE1 := Lib.hid E1
  have hs : sameG G H = (decide (G.init = H.init) && decide (G.labels = H.labels) && decide (G.edges = H.edges)) := rfl
  have HS := Lib.hid hs
  have hw : (w.alloc (.cells #[.slice ai ni ci, .slice ae ne ce, .slice al nl cl] 26)).alloc (.cells #[.slice bi mi di, .slice be me de, .slice bl ml dl] 26) = w1 := by rw [← HW0.out, ← HW1.out]
  have HWW := Lib.hid hw
  have H2 := Lib.hid L2
  have H3 := Lib.hid L3
  have K2 := Lib.hid M2
  have K3 := Lib.hid M3
  clear hw0 hw1 E1 L1 L2 L3 M1 M2 M3 hs hw
  cases d1 : decide (G.init = H.init)
  · have D1 := Lib.hid d1
    clear d1
    go_enter Try.func20, Try.ntmps20
    go_wp2_with fail
    rw [HWW.out]
    refine Calls.mono (HE1.out _ (Below.refl _ _)) ?_
    rw [D1.out]
    rintro e w2 ⟨rfl, m, hw2⟩
    have hb2 := below_len hw2
    clear hw2
    go_wp2
    go_ret
    exact ⟨ret_bool (by rw [HS.out, D1.out]; rfl), hbA.trans (hb2.mono (by omega))⟩
  have D1 := Lib.hid d1
  clear d1
  by_cases c2 : ne ≠ me
  · have d2 : ((ne : Int) != (me : Int)) = true := by simp; omega
    have C2 := Lib.hid c2
    clear c2
    go_enter Try.func20, Try.ntmps20
    go_wp2_with fail
    rw [HWW.out]
    refine Calls.mono (HE1.out _ (Below.refl _ _)) ?_
    rw [D1.out]
    rintro e w2 ⟨rfl, m, hw2⟩
    have hb2 := below_len hw2
    have a2 := (hb2.cell (p := ⟨w.heap.size, 1, none⟩) (show w.heap.size < w1.heap.size by omega)).trans hx1
    have b2 := (hb2.cell (p := ⟨w.heap.size + 1, 1, none⟩) (show w.heap.size + 1 < w1.heap.size by omega)).trans hy1
    clear hw2
    go_wp2
    go_ret
    refine ⟨ret_bool ?_, hbA.trans (hb2.mono (by omega))⟩
    have : decide (G.edges = H.edges) = false := decide_eq_false (fun e => C2.out (by rw [H2.out, K2.out, e]))
    rw [HS.out, this]; simp
  obtain rfl : ne = me := by omega
  have d2 : ((ne : Int) != (ne : Int)) = false := by simp
  by_cases c3 : nl ≠ ml
  · have d3 : ((nl : Int) != (ml : Int)) = true := by simp; omega
    have C3 := Lib.hid c3
    clear c3
    go_enter Try.func20, Try.ntmps20
    go_wp2_with fail
    rw [HWW.out]
    refine Calls.mono (HE1.out _ (Below.refl _ _)) ?_
    rw [D1.out]
    rintro e w2 ⟨rfl, m, hw2⟩
    have hb2 := below_len hw2
    have a2 := (hb2.cell (p := ⟨w.heap.size, 1, none⟩) (show w.heap.size < w1.heap.size by omega)).trans hx1
    have b2 := (hb2.cell (p := ⟨w.heap.size + 1, 1, none⟩) (show w.heap.size + 1 < w1.heap.size by omega)).trans hy1
    have a3 := (hb2.cell (p := ⟨w.heap.size, 2, none⟩) (show w.heap.size < w1.heap.size by omega)).trans hx2
    have b3 := (hb2.cell (p := ⟨w.heap.size + 1, 2, none⟩) (show w.heap.size + 1 < w1.heap.size by omega)).trans hy2
    clear hw2
    go_wp2
    go_ret
    refine ⟨ret_bool ?_, hbA.trans (hb2.mono (by omega))⟩
    have : decide (G.labels = H.labels) = false := decide_eq_false (fun e => C3.out (by rw [H3.out, K3.out, e]))
    rw [HS.out, this]; simp
  obtain rfl : nl = ml := by omega
  have d3 : ((nl : Int) != (nl : Int)) = false := by simp
  go_enter Try.func20, Try.ntmps20
  go_wp2_with fail
  rw [HWW.out]
  refine Calls.mono (HE1.out _ (Below.refl _ _)) ?_
  rw [D1.out]
  rintro e w2 ⟨rfl, m, hw2⟩
  have hb2 := below_len hw2
  have hz2 := hb2.size
  have a1 := (hb2.cell (p := ⟨w.heap.size, 1, none⟩) (show w.heap.size < w1.heap.size by omega)).trans hx1
  have b1 := (hb2.cell (p := ⟨w.heap.size + 1, 1, none⟩) (show w.heap.size + 1 < w1.heap.size by omega)).trans hy1
  have a3 := (hb2.cell (p := ⟨w.heap.size, 2, none⟩) (show w.heap.size < w1.heap.size by omega)).trans hx2
  have b3 := (hb2.cell (p := ⟨w.heap.size + 1, 2, none⟩) (show w.heap.size + 1 < w1.heap.size by omega)).trans hy2
  have h2 := h'.below hb2 (by omega)
  have k2 := k'.below hb2 (by omega)
  have hbA2 : Below w.heap.size w w2 := hbA.trans (hb2.mono (by omega))
  have fin : ∀ m, Below w.heap.size w (w2.drewN m) := fun m => below_drewN hbA2 m
  have FIN := Lib.hid fin
  clear hw2 fin hx0 hx1 hx2 hy0 hy1 hy2 h k h' k' hb2 hbA hb0 hb1
  go_wp2
  go_loopw [5] (fun i wr => ∃ k m : Nat, k ≤ nl ∧ i = .int .i64 k ∧ wr = w2.drewN m ∧ Hid (G.labels.take k = H.labels.take k)) (fun i _ => nl - (intOf i).toNat)
  case atStart => exact ⟨0, 0, by omega, rfl, rfl, rfl⟩
  case round =>
    obtain ⟨k, m, hk, rfl, rfl, HT⟩ := hrel
    by_cases hlt : k < nl
    · have hk1 : k < G.labels.length := by rw [← H3.out]; exact hlt
      have hk2 : k < H.labels.length := by rw [← K3.out]; exact hlt
      obtain ⟨b, o, rfl, _, hc⟩ := h2.hl.rd.at_ (j := k) (u := .int .u64 G.labels[k]) (by simp [hk1])
      obtain ⟨b', o', rfl, _, hc'⟩ := k2.hl.rd.at_ (j := k) (u := .int .u64 H.labels[k]) (by simp [hk2])
      have hsn := fun h => take_eq_snoc HT.out hk1 hk2 h
      generalize hX : G.labels[k] = x at *
      generalize hY : H.labels[k] = y at *
      have HX := Lib.hid hX
      have HY := Lib.hid hY
      have HSN := Lib.hid hsn
      have i0 : (0 : Int) ≤ (k : Int) := by omega
      have i1 : (k : Int) < (nl : Int) := by omega
      clear hX hY hsn
      rcases Decidable.em (x = y) with hxy | hxy
      · have hbb : (x != y) = false := by simp [hxy]
        have HXY := Lib.hid hxy
        clear hxy
        go_wp2_with fail
        go_quiet (fail)
        go_wp2
        go_roundw
        case rel => exact ⟨k + 1, _, by omega, by go_num, by first | rfl | rw [World.drewN_drewN], HSN.out HXY.out⟩
        case measure => simp [intOf]; omega
      · have hbb : (x != y) = true := by simp [hxy]
        have HXY := Lib.hid hxy
        clear hxy
        go_wp2_with fail
        go_quiet (fail)
        go_wp2
        go_ret
        refine ⟨ret_bool ?_, by rw [World.drewN_drewN]; exact FIN.out _⟩
        have : decide (G.labels = H.labels) = false := decide_eq_false (fun e => HXY.out (by rw [← HX.out, ← HY.out]; simp [e]))
        rw [HS.out, this]; simp
    · have hkl : k = nl := by omega
      have hlab := take_eq_end (by rw [← H3.out, ← K3.out]) (by rw [← H3.out, hkl]; exact Nat.le_refl _) HT.out
      have HLAB := Lib.hid hlab
      have HKL := Lib.hid hkl
      clear hlab hkl
      obtain ⟨wo, hwo⟩ : ∃ wo, wo = w2.drewN m := ⟨_, rfl⟩
      have HWO := Lib.hid hwo
      have hcq : ∀ p, wo.cell? p = w2.cell? p := fun p => by rw [hwo]; rfl
      have a1 := (hcq _).trans a1
      have b1 := (hcq _).trans b1
      have a3 := (hcq _).trans a3
      clear hcq
      have ho : Sl2 wo B 2 ae ne ce (G.edges.map ncells) := by rw [hwo]; exact h2.he.below (B' := w2.heap.size) ⟨rfl, rfl, rfl, Nat.le_refl _, fun _ _ => rfl⟩ (by omega)
      have ko : Sl2 wo B 2 be ne de (H.edges.map ncells) := by rw [hwo]; exact k2.he.below (B' := w2.heap.size) ⟨rfl, rfl, rfl, Nat.le_refl _, fun _ _ => rfl⟩ (by omega)
      have fin : ∀ q, Below w.heap.size w (wo.drewN q) := fun q => by rw [hwo, World.drewN_drewN]; exact FIN.out _
      have FIN2 := Lib.hid fin
      rw [← hwo]
      clear hwo fin b3
      go_wp2
      go_loopw [6, 7] (fun i _ wr => ∃ k m : Nat, k ≤ ne ∧ i = .int .i64 k ∧ wr = wo.drewN m ∧ Hid (G.edges.take k = H.edges.take k)) (fun i _ _ => ne - (intOf i).toNat)
      case atStart => exact ⟨0, 0, by omega, rfl, rfl, rfl⟩
      case round =>
        obtain ⟨k, m, hk, rfl, rfl, HT⟩ := hrel
        by_cases hlt : k < ne
        · have hk1 : k < G.edges.length := by rw [← H2.out]; exact hlt
          have hk2 : k < H.edges.length := by rw [← K2.out]; exact hlt
          obtain ⟨b, o, A', n', c', rfl, _, hc, hs⟩ := ho.at_ (ed_take hk1)
          obtain ⟨b', o', A'', n'', c'', rfl, _, hc', hs'⟩ := ko.at_ (ed_take hk2)
          have hsn := fun h => take_eq_snoc HT.out hk1 hk2 h
          have hlen := hr G.edges[k] (List.getElem_mem hk1)
          have hnx : n' = G.edges[k].length := by have := hs.len; rw [ncells_len] at this; omega
          have hnx' : n'' = H.edges[k].length := by have := hs'.len; rw [ncells_len] at this; omega
          have hno : G.edges[k] ≠ H.edges[k] → sameG G H = false := fun h => by
            have : decide (G.edges = H.edges) = false := decide_eq_false (fun e => h (by simp [e]))
            rw [HS.out, this]; simp
          generalize hX : G.edges[k] = x at *
          generalize hY : H.edges[k] = y at *
          have HX := Lib.hid hX
          have HY := Lib.hid hY
          have HSN := Lib.hid hsn
          have HNO := Lib.hid hno
          have HNX := Lib.hid hnx
          have HNY := Lib.hid hnx'
          have i0 : (0 : Int) ≤ (k : Int) := by omega
          have i1 : (k : Int) < (ne : Int) := by omega
          rw [← hnx] at hlen
          clear hX hY hsn hno hnx hnx'
          by_cases hq : n' = n''
          · subst hq
            have d4 : ((n' : Int) != (n' : Int)) = false := by simp
            go_wp2_with fail
            go_quiet (fail)
            obtain ⟨wp, hwp⟩ : ∃ wp, wp = (wo.drewN m).drewN nq := ⟨_, rfl⟩
            have HWP := Lib.hid hwp
            have hcq : ∀ p, wp.cell? p = wo.cell? p := fun p => by rw [hwp]; rfl
            have a1 := (hcq _).trans a1
            have b1 := (hcq _).trans b1
            have hc := (hcq _).trans hc
            have hc' := (hcq _).trans hc'
            clear hcq
            have hs : Sl wp B 2 A' n' c' (ncells x) := by rw [hwp]; exact hs.below (B' := wo.heap.size) ⟨rfl, rfl, rfl, Nat.le_refl _, fun _ _ => rfl⟩ (by rw [HWO.out]; exact Nat.le_trans hB hbA2.size)
            have hs' : Sl wp B 2 A'' n' c'' (ncells y) := by rw [hwp]; exact hs'.below (B' := wo.heap.size) ⟨rfl, rfl, rfl, Nat.le_refl _, fun _ _ => rfl⟩ (by rw [HWO.out]; exact Nat.le_trans hB hbA2.size)
            rw [← hwp]
            clear hwp
            go_wp2
            go_loopw [7] (fun i wr => ∃ j q : Nat, j ≤ n' ∧ i = .int .i64 j ∧ wr = wp.drewN q ∧ Hid (x.take j = y.take j)) (fun i _ => n' - (intOf i).toNat)
            case atStart => exact ⟨0, 0, by omega, rfl, rfl, rfl⟩
            case round =>
              obtain ⟨j, q, hj, rfl, rfl, HT3⟩ := hrel
              by_cases hltj : j < n'
              · have hj1 : j < x.length := by rw [← HNX.out]; exact hltj
                have hj2 : j < y.length := by rw [← HNY.out]; exact hltj
                obtain ⟨bb, oo, rfl, _, hd0, hd1⟩ := rd_nd hs.rd hj1
                obtain ⟨bb', oo', rfl, _, hd0', hd1'⟩ := rd_nd hs'.rd hj2
                have hsn := fun h => take_eq_snoc HT3.out hj1 hj2 h
                generalize hE : x[j] = e at *
                generalize hF : y[j] = f at *
                have HE := Lib.hid hE
                have HF := Lib.hid hF
                have HSN3 := Lib.hid hsn
                have hneq := neq_ed e f
                clear hE hF hsn
                have j0 : (0 : Int) ≤ (j : Int) := by omega
                have j1 : (j : Int) < (n' : Int) := by omega
                rcases Decidable.em (e = f) with hef | hef
                · have hd : decide (e ≠ f) = false := by simp [hef]
                  rw [hd] at hneq
                  have HEF := Lib.hid hef
                  clear hef hd
                  go_wp2_with fail
                  go_quiet (fail)
                  go_wp2
                  go_roundw
                  case rel => exact ⟨j + 1, _, by omega, by go_num, by first | rfl | rw [World.drewN_drewN], HSN3.out HEF.out⟩
                  case measure => simp [intOf]; omega
                · have hd : decide (e ≠ f) = true := by simp [hef]
                  rw [hd] at hneq
                  have HEF := Lib.hid hef
                  clear hef hd
                  go_wp2_with fail
                  go_quiet (fail)
                  go_wp2
                  go_ret
                  refine ⟨ret_bool ?_, by rw [HWP.out, World.drewN_drewN, World.drewN_drewN, World.drewN_drewN]; exact FIN2.out _⟩
                  rw [HNO.out (fun h => HEF.out (by rw [← HE.out, ← HF.out]; simp [h]))]
              · have hjl : j = n' := by omega
                have hxy := take_eq_end (by rw [← HNX.out, ← HNY.out]) (by rw [← HNX.out, hjl]; exact Nat.le_refl _) HT3.out
                have HXY := Lib.hid hxy
                have HJL := Lib.hid hjl
                clear hxy hjl
                go_wp2
                go_roundw
                case rel => exact ⟨k + 1, _, by omega, by go_num, by rw [HWP.out, World.drewN_drewN, World.drewN_drewN], HSN.out HXY.out⟩
                case measure => simp [intOf]; omega
          · have d4 : ((n' : Int) != (n'' : Int)) = true := by simp; omega
            have HQ := Lib.hid hq
            clear hq
            go_wp2_with fail
            go_quiet (fail)
            go_wp2
            go_ret
            refine ⟨ret_bool ?_, by rw [World.drewN_drewN]; exact FIN2.out _⟩
            rw [HNO.out (fun h => HQ.out (by rw [HNX.out, HNY.out, h]))]
        · have hkl : k = ne := by omega
          have hed := take_eq_end (by rw [← H2.out, ← K2.out]) (by rw [← H2.out, hkl]; exact Nat.le_refl _) HT.out
          have HED := Lib.hid hed
          have HKL2 := Lib.hid hkl
          clear hed hkl
          go_wp2
          go_ret
          exact ⟨ret_bool (by rw [HS.out, D1.out, decide_eq_true HLAB.out, decide_eq_true HED.out]; rfl), FIN2.out _⟩
end
end Go.Proofs.Ytfpncpjdmgfkbaa
