/- The walk of the reference's Check of layer 6. -/
import Derived.Test.YtfpncpjdmgfkbaaGr2
namespace Go.Proofs.Ytfpncpjdmgfkbaa
open Go.RowKit

theorem below_undrew {B : Nat} {w w' : World} (h : Below B w.drew w') : Below B w w' := ⟨h.os, h.tape, h.output, h.size, h.block⟩
theorem below_undrewN {B m : Nat} {w w' : World} (h : Below B (w.drewN m) w') : Below B w w' := ⟨h.os, h.tape, h.output, h.size, h.block⟩

section
variable (ai ae al : Option Addr) (ni ci ne ce nl cl : Nat)

set_option maxHeartbeats 4000000 in
set_option maxRecDepth 100000 in
theorem checkR_any (G : Gph) (w : World) (B : Nat) (h : GrRd w B ai ni ci ae ne ce al nl cl G) (hB : B ≤ w.heap.size) (hi : ni ≤ 100000000000000) (he : ne ≤ 100000000000000) (hl : nl ≤ 100000000000000) (hr : ∀ l ∈ G.edges, l.length ≤ 100000000000) :
    Calls Try.prog 18 #[.agg #[.slice ai ni ci, .slice ae ne ce, .slice al nl cl]] w (Num w (checkG G)) := by
  obtain ⟨L1, L2, L3⟩ := h.lens
  obtain ⟨w0, hw0, hb0, hz0, hx0, hx1, hx2⟩ := boxed3 w (.slice ai ni ci) (.slice ae ne ce) (.slice al nl cl) 26
  have HW0 := Lib.hid hw0
  have H1 := Lib.hid L1
  have H2 := Lib.hid L2
  have H3 := Lib.hid L3
  clear hw0 L1 L2 L3
  have h' := h.below hb0 hB
  by_cases c1 : 65536 < ne
  · have hc : checkG G = 11 := by rw [checkG, if_pos (by rw [← H2.out]; exact c1)]
    have HC := Lib.hid hc
    have d1 : (65536 : Int) < (ne : Int) := by omega
    clear hc
    go_enter Try.func18, Try.ntmps18
    go_wp2
    rw [← HW0.out]
    go_ret
    exact ⟨ret_int HC.out.symm, hb0⟩
  by_cases c2 : nl = ne
  · have d1 : decide ((65536 : Int) < (ne : Int)) = false := by simp; omega
    subst c2
    have d2 : ((nl : Int) != (nl : Int)) = false := by simp
    have hc : checkG G = if G.init.all (isNd nl) && G.edges.all (fun l => l.all (fun e => isNd nl e.op)) then 0 else 10 := by
      rw [checkG, if_neg (by rw [← H2.out]; exact c1), if_neg (by rw [← H2.out, ← H3.out]; simp), ← H2.out]
    have HC := Lib.hid hc
    clear hc c1
    go_enter Try.func18, Try.ntmps18
    go_wp2
    rw [← HW0.out]
    clear HW0
    go_loopw [3] (fun i wr => ∃ k : Nat, k ≤ ni ∧ i = .int .i64 k ∧ Below w0.heap.size w0 wr ∧ Hid ((G.init.take k).all (isNd nl) = true)) (fun i _ => ni - (intOf i).toNat)
    case atStart => exact ⟨0, by omega, rfl, Below.refl _ _, rfl⟩
    case round =>
      obtain ⟨k, hk, rfl, hbr, HA⟩ := hrel
      have hz := hbr.size
      have g0 := (hbr.cell (p := ⟨w.heap.size, 0, none⟩) (show w.heap.size < w0.heap.size by omega)).trans hx0
      have g1 := (hbr.cell (p := ⟨w.heap.size, 1, none⟩) (show w.heap.size < w0.heap.size by omega)).trans hx1
      have g2 := (hbr.cell (p := ⟨w.heap.size, 2, none⟩) (show w.heap.size < w0.heap.size by omega)).trans hx2
      by_cases hlt : k < ni
      · have hkl : k < G.init.length := by rw [← H1.out]; exact hlt
        obtain ⟨b, o, rfl, hbb, hc0⟩ := rd_int (h'.hi.rd.below hbr (by omega)) hkl
        have hsn := all_take hkl HA.out
        have hno := fun h => all_not (p := isNd nl) hkl h
        generalize hx : G.init[k] = x at *
        have HS := Lib.hid hsn
        have HN := Lib.hid hno
        have Hx := Lib.hid hx
        clear hx hsn hno hx0 hx1 hx2
        have i0 : (0 : Int) ≤ (k : Int) := by omega
        have i1 : (k : Int) < (ni : Int) := by omega
        cases hb : isNd nl x
        all_goals
          have HB := Lib.hid hb
          clear hb
          go_wp2_with fail
          go_region_held3 (fun w' => w'.cell? ⟨w.heap.size, 0, none⟩ = some (.slice (some ⟨b, o, none⟩) ni ci) ∧ w'.cell? ⟨w.heap.size, 1, none⟩ = some (.slice ae nl ce) ∧ w'.cell? ⟨w.heap.size, 2, none⟩ = some (.slice al nl cl) ∧ w'.cell? ⟨b, o + k, none⟩ = some (.int .i64 x))
            (go_keep)
            (first | (go_at_call 28; refine (nodeR_any _ ae al ni ci nl ce nl cl x _).mono ?_; rw [HB.out]; rintro e w2 ⟨rfl, hb2'⟩; have hb2 : Below wr.heap.size wr w2 := below_undrew hb2'; have k0 := (hb2.cell (p := ⟨w.heap.size, 0, none⟩) (show w.heap.size < wr.heap.size by omega)).trans g0; have k1 := (hb2.cell (p := ⟨w.heap.size, 1, none⟩) (show w.heap.size < wr.heap.size by omega)).trans g1; have k2 := (hb2.cell (p := ⟨w.heap.size, 2, none⟩) (show w.heap.size < wr.heap.size by omega)).trans g2; have k3 := (hb2.cell (p := ⟨b, o + k, none⟩) (show b < wr.heap.size by omega)).trans hc0))
          go_wp2
        · go_ret
          exact ⟨ret_int (by rw [HC.out, HN.out HB.out]; rfl), hb0.trans ((hbr.trans (hb2.mono hz)).mono (by omega))⟩
        · go_roundw
          case rel => exact ⟨k + 1, by omega, by go_num, hbr.trans (hb2.mono hz), by show _ = _; rw [HS.out]; exact HB.out⟩
          case measure => simp [intOf]; omega
      · have hkl : k = ni := by omega
        have HI : Hid (G.init.all (isNd nl) = true) := by
          show _ = _
          have := HA.out
          rw [List.take_of_length_le (by rw [hkl]; exact Nat.le_of_eq H1.out.symm)] at this
          exact this
        have HKL := Lib.hid hkl
        clear hkl HA hx0 hx1 hx2
        obtain ⟨wo, rfl⟩ : ∃ wo : World, wo = wr := ⟨_, rfl⟩
        have ho := h'.he.below hbr (by omega)
        go_wp2
        go_loopw [4, 5] (fun i _ wr => ∃ k : Nat, k ≤ nl ∧ i = .int .i64 k ∧ Below wo.heap.size wo wr ∧ Hid ((G.edges.take k).all (fun l => l.all (fun e => isNd nl e.op)) = true)) (fun i _ _ => nl - (intOf i).toNat)
        case atStart => exact ⟨0, by omega, rfl, Below.refl _ _, rfl⟩
        case round =>
          obtain ⟨k, hk, rfl, hbr2, HA⟩ := hrel
          have hz2 := hbr2.size
          have e0 := (hbr2.cell (p := ⟨w.heap.size, 0, none⟩) (show w.heap.size < wo.heap.size by omega)).trans g0
          have e1 := (hbr2.cell (p := ⟨w.heap.size, 1, none⟩) (show w.heap.size < wo.heap.size by omega)).trans g1
          have e2 := (hbr2.cell (p := ⟨w.heap.size, 2, none⟩) (show w.heap.size < wo.heap.size by omega)).trans g2
          have hbA : Below w.heap.size w wr := (hb0.trans (hbr.mono (by omega))).trans (hbr2.mono (by omega))
          by_cases hlt : k < nl
          · have hkl : k < G.edges.length := by rw [← H2.out]; exact hlt
            obtain ⟨b, o, A', n', c', rfl, hbb, hc0, hrow⟩ := (ho.below hbr2 (by omega)).at_ (ed_take hkl)
            have hsn := all_take hkl HA.out
            have hno := fun h => all_not (p := fun l : List Nd => l.all (fun e => isNd nl e.op)) hkl h
            have hlen := hr G.edges[k] (List.getElem_mem hkl)
            generalize hx : G.edges[k] = x at *
            have hnx : n' = x.length := by have := hrow.len; rw [ncells_len] at this; omega
            subst hnx
            have HS := Lib.hid hsn
            have HN := Lib.hid hno
            have Hx := Lib.hid hx
            clear hx hsn hno g0 g1 g2
            have i0 : (0 : Int) ≤ (k : Int) := by omega
            have i1 : (k : Int) < (nl : Int) := by omega
            obtain ⟨wp, rfl⟩ : ∃ wp : World, wp = wr := ⟨_, rfl⟩
            go_wp2
            go_loopw [5] (fun i wr => ∃ m : Nat, m ≤ x.length ∧ i = .int .i64 m ∧ Below wp.heap.size wp wr ∧ Hid ((x.take m).all (fun e => isNd nl e.op) = true)) (fun i _ => x.length - (intOf i).toNat)
            case atStart => exact ⟨0, by omega, rfl, Below.refl _ _, rfl⟩
            case round =>
              obtain ⟨m, hm, rfl, hbr3, HA3⟩ := hrel
              have hz3 := hbr3.size
              have f0 := (hbr3.cell (p := ⟨w.heap.size, 0, none⟩) (show w.heap.size < wp.heap.size by omega)).trans e0
              have f1 := (hbr3.cell (p := ⟨w.heap.size, 1, none⟩) (show w.heap.size < wp.heap.size by omega)).trans e1
              have f2 := (hbr3.cell (p := ⟨w.heap.size, 2, none⟩) (show w.heap.size < wp.heap.size by omega)).trans e2
              have f3 := (hbr3.cell (p := ⟨b, o + k, none⟩) (show b < wp.heap.size by omega)).trans hc0
              clear e0 e1 e2 hc0
              by_cases hltm : m < x.length
              · obtain ⟨bb, oo, rfl, hbbb, hd0, _⟩ := rd_nd (hrow.rd.below hbr3 (by omega)) hltm
                have hsn := all_take hltm HA3.out
                have hno := fun h => all_not (p := fun e => isNd nl e.op) hltm h
                generalize x[m] = e at *
                have HS3 := Lib.hid hsn
                have HN3 := Lib.hid hno
                clear hsn hno
                have j0 : (0 : Int) ≤ (m : Int) := by omega
                have j1 : (m : Int) < (x.length : Int) := by omega
                cases hb : isNd nl e.op
                all_goals
                  have HB := Lib.hid hb
                  clear hb
                  go_wp2_with fail
                  go_region_held3 (fun w' => w'.cell? ⟨w.heap.size, 0, none⟩ = some (.slice ai ni ci) ∧ w'.cell? ⟨w.heap.size, 1, none⟩ = some (.slice (some ⟨b, o, none⟩) nl ce) ∧ w'.cell? ⟨w.heap.size, 2, none⟩ = some (.slice al nl cl) ∧ w'.cell? ⟨b, o + k, none⟩ = some (.slice (some ⟨bb, oo, none⟩) x.length c') ∧ w'.cell? ⟨bb, oo + m * 2, none⟩ = some (.int .i64 e.op))
                    (go_keep)
                    (first | (go_at_call 28; refine (nodeR_any ai _ al ni ci nl ce nl cl e.op _).mono ?_; rw [HB.out]; rintro e' w2 ⟨rfl, hb2'⟩; have hb2 : Below wr.heap.size wr w2 := below_undrew hb2'; have k0 := (hb2.cell (p := ⟨w.heap.size, 0, none⟩) (show w.heap.size < wr.heap.size by omega)).trans f0; have k1 := (hb2.cell (p := ⟨w.heap.size, 1, none⟩) (show w.heap.size < wr.heap.size by omega)).trans f1; have k2 := (hb2.cell (p := ⟨w.heap.size, 2, none⟩) (show w.heap.size < wr.heap.size by omega)).trans f2; have k3 := (hb2.cell (p := ⟨b, o + k, none⟩) (show b < wr.heap.size by omega)).trans f3; have k4 := (hb2.cell (p := ⟨bb, oo + m * 2, none⟩) (show bb < wr.heap.size by omega)).trans hd0))
                  go_wp2
                · go_ret
                  exact ⟨ret_int (by rw [HC.out, HI.out, HN.out (HN3.out HB.out)]; rfl), hbA.trans ((hbr3.trans (hb2.mono hz3)).mono (by omega))⟩
                · go_roundw
                  case rel => exact ⟨m + 1, by omega, by go_num, hbr3.trans (hb2.mono hz3), by show _ = _; rw [HS3.out]; exact HB.out⟩
                  case measure => simp [intOf]; omega
              · have hml : m = x.length := by omega
                have HJ : Hid (x.all (fun e => isNd nl e.op) = true) := by
                  show _ = _
                  have := HA3.out
                  rw [List.take_of_length_le (by omega)] at this
                  exact this
                have HML := Lib.hid hml
                clear hml
                go_wp2
                go_roundw
                case rel => exact ⟨k + 1, by omega, by go_num, hbr2.trans (hbr3.mono hz2), by show _ = _; rw [HS.out]; exact HJ.out⟩
                case measure => simp [intOf]; omega
          · have hkl : k = nl := by omega
            have HJ : Hid (G.edges.all (fun l => l.all (fun e => isNd nl e.op)) = true) := by
              show _ = _
              have := HA.out
              rw [List.take_of_length_le (by rw [hkl]; exact Nat.le_of_eq H2.out.symm)] at this
              exact this
            go_wp2
            go_ret
            exact ⟨ret_int (by rw [HC.out, HI.out, HJ.out]; rfl), hbA⟩
  · have d1 : decide ((65536 : Int) < (ne : Int)) = false := by simp; omega
    have d2 : ((nl : Int) != (ne : Int)) = true := by simp; omega
    have hc : checkG G = 3 := by rw [checkG, if_neg (by rw [← H2.out]; exact c1), if_pos (by rw [← H2.out, ← H3.out]; exact c2)]
    have HC := Lib.hid hc
    clear hc c1
    go_enter Try.func18, Try.ntmps18
    go_wp2
    rw [← HW0.out]
    go_ret
    exact ⟨ret_int HC.out.symm, hb0⟩
end
end Go.Proofs.Ytfpncpjdmgfkbaa
