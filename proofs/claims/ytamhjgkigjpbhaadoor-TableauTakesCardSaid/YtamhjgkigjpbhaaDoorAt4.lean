/- The walk of layer 30's reference: behind. -/
import Derived.Test.YtamhjgkigjpbhaaDoorAt3
namespace Go.Proofs.YtamhjgkigjpbhaaDoor
open Go.RowKit

theorem own_setB {w : World} {base q ne t : Nat} {D : List Bool} {d : Bool} (h : w.ownsRow base 4 1 (.slice (some ⟨q, 0, none⟩) ne ne) ne (bcells D)) :
    (w.setCell ⟨q, t, none⟩ (.bool d)).ownsRow base 4 1 (.slice (some ⟨q, 0, none⟩) ne ne) ne (bcells (D.set t d)) := by
  have := (h.stored t (.bool d)).1
  rw [bcells, List.map_set]; exact this
theorem own_getB {w : World} {base q ne t : Nat} {D : List Bool} (h : w.ownsRow base 4 1 (.slice (some ⟨q, 0, none⟩) ne ne) ne (bcells D)) (ht : t < ne) :
    w.cell? ⟨q, t, none⟩ = some (.bool (D.getD t false)) ∧ w.frozen? ⟨q, t, none⟩ = false ∧ q < w.heap.size ∧ D.length = ne := by
  have hl : D.length = ne := by have := h.1; simpa [bcells] using this
  refine ⟨?_, h.frozenAt t, (h.lt q rfl).2, hl⟩
  rw [h.cellAt t (by omega)]
  simp [bcells, List.getD, hl, ht]
/-- A row that is filled from the front: k done. -/
theorem row_setB {n k : Nat} (hk : k < n) (f : Nat → Bool) (z : Bool) : ((List.range k).map f ++ List.replicate (n - k) z).set k (f k) = (List.range (k + 1)).map f ++ List.replicate (n - (k + 1)) z := by
  refine List.ext_getElem (by simp; omega) (fun i h1 h2 => ?_)
  rw [List.getElem_set]
  simp only [List.getElem_append, List.getElem_replicate, List.getElem_map, List.getElem_range, List.length_map, List.length_range]
  by_cases e : k = i
  · subst e; simp
  · rw [if_neg e]
    by_cases e2 : i < k
    · rw [dif_pos e2, dif_pos (by omega)]
    · rw [dif_neg e2, dif_neg (by omega)]
theorem row_setB0 {n k : Nat} (_hk : k < n) (f : Nat → Bool) (z : Bool) : ((List.range k).map f ++ List.replicate (n - k) z).set k z = (List.range k).map f ++ List.replicate (n - k) z := by
  refine List.ext_getElem (by simp) (fun i h1 h2 => ?_)
  rw [List.getElem_set]
  split
  · rename_i e; subst e
    rw [List.getElem_append_right (by simp)]; simp
  · rfl
/-- From which nodes a way of one edge or more leads to a goal. -/
def behE (n : Nat) (E : List (List Nd)) (goal : List Bool) : List Bool := (List.range n).map fun i => (E.getD i []).any (fun e => (backG n E goal).getD e.op.toNat false)
theorem behE_step (E : List (List Nd)) (z : List Bool) (ask : Nat → Bool) : behE z.length (withinE E z) (goalZ z ask) = stepZ E z ask := rfl
section
variable (ai ae al : Option Addr) (ni ci ne ce nl cl : Nat)
set_option maxHeartbeats 4000000 in
set_option maxRecDepth 100000 in
theorem behind30_any (G : Gph) (goal : List Bool) (Am : Option Addr) (cm : Nat) (w : World) (B : Nat) (h : GrRd w B ai ni ci ae ne ce al nl cl G) (hms : Sl w B 1 Am ne cm (goal.map .bool)) (hmn : ne = goal.length) (hin : ∀ l ∈ G.edges, ∀ e ∈ l, isNd ne e.op = true) (hB : B ≤ w.heap.size) (hni : ni ≤ 1000000000) (hnl : nl ≤ 1000000000) (he : ne ≤ 65536) (K : Nat) (hr : ∀ l ∈ G.edges, l.length ≤ K) (hK : ne * K ≤ 1000000000) (hK2 : K ≤ 1000000000) :
    Calls Tryd.prog 42 #[.agg #[.slice ai ni ci, .slice ae ne ce, .slice al nl cl], .slice Am ne cm] w (NewRow w 4 1 ne (bcells (behE ne G.edges goal)) False) := by
  obtain ⟨w0, hw0, hb0, hz0, hx0, hx1, hx2⟩ := boxed3 w (.slice ai ni ci) (.slice ae ne ce) (.slice al nl cl) 72
  have HW0 := Lib.hid hw0
  clear hw0
  have h' := h.below hb0 hB
  have hm' := hms.below hb0 hB
  have HBK := Lib.hid (backR_any ai ae al ni ci ne ce nl cl G goal Am ne cm w0 w0.heap.size (h'.up (by omega)) (hm'.up (by omega)) hmn (Nat.le_refl _) hni he hnl (by omega) K hr hK hK2)
  have hmk := run_make_row' (P := Tryd.prog) 73 4 (.bool false) 1 Tryd.underlying73 infoBool rfl .i64 .i64 ne (by omega) (by omega)
  have HLE := Lib.hid h.lens.2.1
  have hzl : w.heap.size < w0.heap.size := by omega
  have HIN := Lib.hid hin
  have HR := Lib.hid hr
  clear hin h hms hr hmn
  go_enter Tryd.func42, Tryd.ntmps42
  go_wp2_with fail
  rw [← HW0.out]
  refine HBK.out.mono ?_
  rintro e w2 ⟨v, rfl, hback, hb2, _⟩
  obtain ⟨Ab, cb, rfl, hsb⟩ := own_sl hback
  have hz2s := hb2.size
  have g1 := (hb2.cell (p := ⟨w.heap.size, 1, none⟩) hzl).trans hx1
  have hlw2 : w.heap.size < w2.heap.size := by omega
  have hbw2 : Below w.heap.size w w2 := hb0.trans (hb2.mono (by omega))
  clear HBK hback hx0 hx1 hx2
  go_wp2
  obtain ⟨go, hgo⟩ : ∃ q, q = w2.heap.size := ⟨_, rfl⟩
  obtain ⟨f, hf⟩ : ∃ f : Nat → Bool, f = fun i => (G.edges.getD i []).any (fun e => (backG ne G.edges goal).getD e.op.toNat false) := ⟨_, rfl⟩
  have hF1 : ∃ W2, W2 = (w2.alloc (.cells (madeCells #[.bool false] ne) 4)) ∧ W2.ownsRow go 4 1 (.slice (some ⟨go, 0, none⟩) ne ne) ne (bcells ((List.range 0).map f ++ List.replicate (ne - 0) false)) ∧ Below go w2 W2 := by
    refine ⟨_, rfl, ?_, (Below.refl _ _).alloc (by rw [hgo]; exact Nat.le_refl _) _⟩
    have := own_made (w := w2) (base := go) (e := 4) (n := ne) (v := .bool false) (by rw [hgo]; exact Nat.le_refl _) (by unfold maxLen; omega)
    rw [← hgo] at this
    simpa [bcells] using this
  obtain ⟨W2, hW2, hown2, hbW2⟩ := hF1
  rw [← hW2, ← hgo]
  have hgo1 : go ≤ w2.heap.size := by omega
  have hgo2 : w2.heap.size ≤ go := by omega
  have hfz : ∀ i, f i = (G.edges.getD i []).any (fun e => (backG ne G.edges goal).getD e.op.toNat false) := fun i => by rw [hf]
  have hfs : (List.range ne).map f = behE ne G.edges goal := by rw [behE, hf]
  have HFZ := Lib.hid hfz
  have HFS := Lib.hid hfs
  have hbl : (backG ne G.edges goal).length = ne := reachG_len _ _ _
  have HBL := Lib.hid hbl
  have hG2 := (h'.below hb2 (by omega)).he
  generalize backG ne G.edges goal = bk at *
  clear hf hfz hfs hW2 hgo hbl hmk
  go_loopw [7, 8] (fun i _ wx => ∃ k : Nat, k ≤ ne ∧ i = .int .i64 k ∧ wx.ownsRow go 4 1 (.slice (some ⟨go, 0, none⟩) ne ne) ne (bcells ((List.range k).map f ++ List.replicate (ne - k) false)) ∧ Below go w2 wx) (fun i _ _ => ne - (intOf i).toNat)
  case atStart => exact ⟨0, by omega, rfl, hown2, hbW2⟩
  case round =>
    obtain ⟨k, hk, rfl, hR, hbx⟩ := hrel
    obtain ⟨wp, rfl⟩ : ∃ wp : World, wp = wr := ⟨_, rfl⟩
    clear hown2
    by_cases hlt : k < ne
    · have hkG : k < G.edges.length := by rw [← HLE.out]; exact hlt
      have hkE : k < G.edges.length := hkG
      obtain ⟨b, o, A', n', c', hae, hbb, hc00, hrow⟩ := hG2.at_ (ed_take hkE)
      subst hae
      have hlen := HR.out _ (List.getElem_mem hkE)
      have hnx : n' = (G.edges[k]).length := by have := hrow.len; rw [ncells_len] at this; omega
      have hxg : G.edges.getD k [] = G.edges[k] := by simp [List.getD, hkE]
      have hxm := HIN.out _ (List.getElem_mem hkE)
      have hfk := HFZ.out k
      rw [hxg] at hfk
      have hR0 : wp.ownsRow go 4 1 (.slice (some ⟨go, 0, none⟩) ne ne) ne (bcells (((List.range k).map f ++ List.replicate (ne - k) false).set k (((G.edges[k]).take 0).any (fun e => bk.getD e.op.toNat false)))) := by
        rw [List.take_zero, List.any_nil, row_setB0 hlt f false]; exact hR
      have hrs := row_setB hlt f false
      have hbsl : ((List.range k).map f ++ List.replicate (ne - k) false).length = ne := by simp; omega
      generalize (List.range k).map f ++ List.replicate (ne - k) false = base at *
      generalize G.edges[k] = x at *
      subst hnx
      have HRS := Lib.hid hrs
      have HFK := Lib.hid hfk
      have HBS := Lib.hid hbsl
      have i0 : (0 : Int) ≤ (k : Int) := by omega
      have i1 : (k : Int) < (ne : Int) := by omega
      have G1 := Lib.hid g1
      clear hrs hfk hxg hR hbsl g1
      go_wp2
      go_loopw [8] (fun i wx => ∃ m : Nat, m ≤ x.length ∧ i = .int .i64 m ∧ wx.ownsRow go 4 1 (.slice (some ⟨go, 0, none⟩) ne ne) ne (bcells (base.set k ((x.take m).any (fun e => bk.getD e.op.toNat false)))) ∧ Below go w2 wx) (fun i _ => x.length - (intOf i).toNat)
      case atStart => exact ⟨0, by omega, rfl, hR0, hbx⟩
      case round =>
        obtain ⟨m, hm, rfl, hR, hbr⟩ := hrel
        clear hR0 hbx
        have hc0 := (hbr.cell (p := ⟨b, o + k, none⟩) (show b < go by omega)).trans hc00
        have hg1 := (hbr.cell (p := ⟨w.heap.size, 1, none⟩) (show w.heap.size < go by omega)).trans G1.out
        by_cases hltm : m < x.length
        · obtain ⟨bb, oo, rfl, hbbb, hd0, hd1⟩ := rd_nd (hrow.rd.below hbr (by omega)) hltm
          have hop := hxm _ (List.getElem_mem hltm)
          have hac : (x.take (m + 1)).any (fun e => bk.getD e.op.toNat false) = ((x.take m).any (fun e => bk.getD e.op.toNat false) || bk.getD (x[m]).op.toNat false) := by
            rw [take_snoc x m hltm, List.any_append]; simp
          generalize (x.take m).any (fun e => bk.getD e.op.toNat false) = a0 at *
          generalize x[m] = e at *
          obtain ⟨op, act⟩ := e
          dsimp only at *
          obtain ⟨j, rfl, hjl⟩ := isNd_nat hop
          rw [Int.toNat_natCast] at hac
          obtain ⟨b2, o2, hab, hb20, hbc⟩ := (hsb.rd.below hbr (by omega)).at_ (bcells'_at (show j < bk.length by rw [HBL.out]; exact hjl))
          subst hab
          obtain ⟨q0, q1, q2, _⟩ := own_getB hR hlt
          rw [getD_set_same (by rw [HBS.out]; exact hlt)] at q0
          have HRH := Lib.hid hR
          have hszw := hbr.size
          have i2 : (0 : Int) ≤ (j : Int) := by omega
          have i3 : (j : Int) < (ne : Int) := by omega
          have m0 : (0 : Int) ≤ (m : Int) := by omega
          have m1 : (m : Int) < (x.length : Int) := by omega
          have k1 : b2 < wr.heap.size := by omega
          have k2 : bb < wr.heap.size := by omega
          have HAC := Lib.hid hac
          generalize bk.getD j false = bv at *
          have HW : ∀ v, Hid ((wr.setCell ⟨go, k, none⟩ (.bool v)).ownsRow go 4 1 (.slice (some ⟨go, 0, none⟩) ne ne) ne (bcells (base.set k v)) ∧ Below go w2 (wr.setCell ⟨go, k, none⟩ (.bool v))) := fun v => by
            have h1 := own_setB (t := k) (d := v) HRH.out
            rw [List.set_set] at h1
            exact Lib.hid ⟨h1, hbr.setCell (p := ⟨go, k, none⟩) (Nat.le_refl _) (.bool v)⟩
          clear hac hop hR hbr
          cases a0
          · go_wp2
            go_roundw
            case rel => exact ⟨m + 1, by omega, by go_num, by rw [HAC.out, Bool.false_or]; exact (HW bv).out.1, (HW bv).out.2⟩
            case measure => simp [intOf]; omega
          · go_wp2
            go_roundw
            case rel => exact ⟨m + 1, by omega, by go_num, by rw [HAC.out, Bool.true_or]; exact (HW true).out.1, (HW true).out.2⟩
            case measure => simp [intOf]; omega
        · have hml : m = x.length := by omega
          rw [hml, List.take_length, ← HFK.out, HRS.out] at hR
          have HR := Lib.hid hR
          have HBR := Lib.hid hbr
          clear hml hR hbr
          go_wp2
          go_roundw
          case rel => exact ⟨k + 1, by omega, by go_num, HR.out, HBR.out⟩
          case measure => simp [intOf]; omega
    · have hke : k = ne := by omega
      rw [hke, Nat.sub_self, List.replicate_zero, List.append_nil, HFS.out] at hR
      have HR := Lib.hid hR
      have HBX := Lib.hid (hbw2.trans (hbx.mono (by have := hbw2.size; omega)))
      have hws := hbw2.size
      clear hR hbx hke
      go_wp2
      go_ret
      exact ⟨_, rfl, own_base HR.out (by omega), HBX.out, by simp⟩
end
end Go.Proofs.YtamhjgkigjpbhaaDoor
