/- The walk of layer 6: the reference's far. -/
import Derived.Test.YtfpncpjdmgfkbaaGrD
import Derived.IntWalk
namespace Go.Proofs.Ytfpncpjdmgfkbaa
open Go.RowKit

/-- What far writes. -/
def QS (qf : Nat) (v0 : Value) (B : Nat) : Nat → Prop := fun k => k = qf ∨ v0.ownBlock = some k ∨ B ≤ k
/-- Distances under way, the open nodes in a row of their own. -/
structure QRelF (wD : World) (qf ne bw : Nat) (v0 v : Value) (s : List Int × List Int) (wr : World) : Prop where
  far : wr.ownsRow 0 3 1 (.slice (some ⟨qf, 0, none⟩) ne ne) ne (icells s.1)
  op : wr.ownsRow bw 3 1 v s.2.length (icells s.2)
  at_ : ∀ g, v.ownBlock = some g → v0.ownBlock = some g ∨ wD.heap.size ≤ g
  t : Tch (QS qf v0 wD.heap.size) wD wr
section
variable {wD w w' w1 w2 : World} {qf ne bw : Nat} {v0 v : Value} {s : List Int × List Int}
theorem QRelF.below (h : QRelF wD qf ne bw v0 v s w) (hb : Below w.heap.size w w') : QRelF wD qf ne bw v0 v s w' :=
  ⟨own_below h.far hb, own_below h.op hb, h.at_, Tch.trans h.t (Tch.of_below hb) (fun i hi hS => by have := h.t.size; omega)⟩
theorem QRelF.tell {t : Nat} {d : Int} (hq : qf < bw) (h : QRelF wD qf ne bw v0 v s w) :
    (w.setCell ⟨qf, t, none⟩ (.int .i64 d)).ownsRow 0 3 1 (.slice (some ⟨qf, 0, none⟩) ne ne) ne (icells (s.1.set t d)) ∧ (w.setCell ⟨qf, t, none⟩ (.int .i64 d)).ownsRow bw 3 1 v s.2.length (icells s.2) ∧ Tch (QS qf v0 wD.heap.size) wD (w.setCell ⟨qf, t, none⟩ (.int .i64 d)) := by
  have ht := tch_cell (w := w) qf t (.int .i64 d)
  exact ⟨own_seti h.far, own_tch h.op ht (fun g hg e => by have := (h.op.lt g hg).1; omega), Tch.trans h.t ht (fun _ _ e => .inl e)⟩
theorem QRelF.open {t : Nat} {d : Int} {v' : Value} {o : Obj} (hq : qf < bw) (hf : w.ownsRow 0 3 1 (.slice (some ⟨qf, 0, none⟩) ne ne) ne (icells (s.1.set t d))) (hn : w.ownsRow bw 3 1 v s.2.length (icells s.2)) (ha : ∀ g, v.ownBlock = some g → v0.ownBlock = some g ∨ wD.heap.size ≤ g)
    (ht : Tch (QS qf v0 wD.heap.size) wD w) (hw : w1 = w.alloc o) (hown : w2.ownsRow bw 3 1 v' (s.2.length + 1) (icells s.2 ++ [.int .i64 t])) (ht2 : Tch (fun k => v.ownBlock = some k) w1 w2) (hat : v'.ownBlock = v.ownBlock ∨ v'.ownBlock = some w1.heap.size) :
    QRelF wD qf ne bw v0 v' (s.1.set t d, s.2 ++ [(t : Int)]) w2 := by
  subst hw
  have ht' : Tch (fun k => v.ownBlock = some k) w w2 := Tch.trans ((Tch.refl _ w).alloc _) ht2 (fun _ _ h => h)
  refine ⟨own_tch hf ht' (fun g hg e => by have := (hn.lt g e).1; simp [Value.ownBlock] at hg; omega), by rw [icells_append, List.length_append]; exact hown, fun g hg => ?_, Tch.trans ht ht' (fun i hi e => by rcases ha i e with h | h; exact .inr (.inl h); exact .inr (.inr h))⟩
  rcases hat with h | h
  · exact ha g (h ▸ hg)
  · rw [h] at hg; cases hg; right; have := ht.size; simp; omega
/-- The rows of edges, through all of it. -/
theorem rows1 {W0 : World} {bT me de a : Nat} {be : Option Addr} {T : List (List Nd)} {vs : List Value} (hO : Own2 W0 bT 42 34 2 (.slice be me de) (T.map ncells) vs) (ha : a < T.length) (hqf : qf < bT) (h0 : ∀ g, v0.ownBlock = some g → g < bT) :
    ∃ b A' c', be = some ⟨b, 0, none⟩ ∧ W0.cell? ⟨b, a, none⟩ = some (.slice A' (T[a]).length c') ∧ ¬ QS qf v0 W0.heap.size b ∧ W0.ownsRow bT 42 2 (.slice A' (T[a]).length c') (T[a]).length (ncells T[a]) ∧
      (∀ g, (Value.slice A' (T[a]).length c').ownBlock = some g → ¬ QS qf v0 W0.heap.size g) := by
  have hlm : 0 < (T.map ncells).length := by rw [List.length_map]; omega
  obtain ⟨g, cap, hv, hg1, hg2⟩ := hO.form hlm
  cases hv
  obtain ⟨u, n, hu, ho⟩ := hO.row a (ncells T[a]) (by simp [ha])
  have hn : n = (T[a]).length := by have := ho.1; rw [ncells_len] at this; omega
  subst hn
  obtain ⟨A', c', rfl, _⟩ := own_sl ho
  refine ⟨g, A', c', rfl, hO.cell hu, fun h => ?_, ho, fun k hk h => ?_⟩
  · rcases h with h | h | h
    · omega
    · have := h0 g h; omega
    · omega
  · have := ho.lt k hk
    rcases h with h | h | h
    · omega
    · have := h0 k h; omega
    · omega
end

section
variable (ai ae al : Option Addr) (ni ci ne ce nl cl : Nat)

set_option maxHeartbeats 2000000 in
set_option maxRecDepth 100000 in
theorem farR_any (G : Gph) (goal : List Bool) (A : Option Addr) (n c : Nat) (w : World) (B : Nat) (h : GrRd w B ai ni ci ae ne ce al nl cl G) (hs : Sl w B 1 A n c (goal.map .bool)) (hn : n = goal.length) (hB : B ≤ w.heap.size) (hi : ni ≤ 1000000000) (he : ne ≤ 65536) (hl : nl ≤ 1000000000) (hn2 : n ≤ 1000000000) (KE : Nat) (hr : ∀ l ∈ G.edges, l.length ≤ KE) (hKE : ne * KE ≤ 1000000000) (hK2 : KE ≤ 1000000000) :
    Calls Try.prog 58 #[.agg #[.slice ai ni ci, .slice ae ne ce, .slice al nl cl], .slice A n c] w (NewRow w 3 1 ne (icells (farG ne (turnE G.edges) (goalsG ne goal))) False) := by
  subst hn
  obtain ⟨w0, hw0, hb0, hz0, hx0, hx1, hx2⟩ := boxed3 w (.slice ai ni ci) (.slice ae ne ce) (.slice al nl cl) 26
  have HW0 := Lib.hid hw0
  have HZ0 := Lib.hid hz0
  have h' := h.below hb0 hB
  have hs' := hs.below hb0 hB
  have hzl : w.heap.size < w0.heap.size := by omega
  have hB0 : B ≤ w0.heap.size := by omega
  have L2 := h.lens.2.1
  have hr2 : ∀ l ∈ turnE G.edges, l.length ≤ 1000000000 := turnE_bd hr (by rw [← L2]; exact hKE)
  have hTo : TOk ne (turnE G.edges) := by rw [L2]; exact turn_TOk _
  have hTl : (turnE G.edges).length = ne := by rw [turnE_len, L2]
  have HTL := Lib.hid hTl
  have hg := goalsG_ok ne goal
  have hel : (goalsG ne goal).length ≤ ne := goalsG_len ne goal
  have HG := Lib.hid hg
  have HTO := Lib.hid hTo
  clear hw0 hz0 h hs L2 hTl hg hTo
  have hmk := run_make_row' (P := Try.prog) 22 3 (.int .i64 0) 8 Try.underlying22 infoInt rfl .i64 .i64 ne (by omega) (by omega)
  go_enter Try.func58, Try.ntmps58
  go_wp2
  rw [← HW0.out]
  have hF0 : (w0.alloc (.cells (madeCells #[.int .i64 0] ne) 3)).ownsRow 0 3 1 (.slice (some ⟨w0.heap.size, 0, none⟩) ne ne) ne (icells (List.replicate 0 (-1) ++ List.replicate (ne - 0) 0)) := by
    have := own_made (w := w0) (base := 0) (e := 3) (n := ne) (v := .int .i64 0) (Nat.zero_le _) (by unfold maxLen; omega)
    simpa [icells] using this
  have hb1 : Below w0.heap.size w0 (w0.alloc (.cells (madeCells #[.int .i64 0] ne) 3)) := (Below.refl _ _).alloc (Nat.le_refl _) _
  have hz1 : (w0.alloc (.cells (madeCells #[.int .i64 0] ne) 3)).heap.size = w0.heap.size + 1 := by simp
  rw [HZ0.out] at hF0
  generalize w0.alloc (.cells (madeCells #[.int .i64 0] ne) 3) = w1 at *
  have hz1' : w1.heap.size = w.heap.size + 2 := by rw [hz1, HZ0.out]
  have HZ1 := Lib.hid hz1'
  have hqf : w.heap.size + 1 < w1.heap.size := by omega
  clear hmk HW0 hz1 hz1'
  generalize hqe : w.heap.size + 1 = qf at *
  have hqw : w0.heap.size ≤ qf := by rw [HZ0.out]; omega
  have HQE := Lib.hid hqe
  clear hqe
  go_loopw [6] (fun i wr => ∃ k : Nat, k ≤ ne ∧ i = .int .i64 k ∧ wr.ownsRow 0 3 1 (.slice (some ⟨qf, 0, none⟩) ne ne) ne (icells (List.replicate k (-1) ++ List.replicate (ne - k) 0)) ∧ Tch (fun b => b = qf) w1 wr) (fun i _ => ne - (intOf i).toNat)
  case atStart => exact ⟨0, by omega, rfl, hF0, Tch.refl _ _⟩
  case round =>
    obtain ⟨k, hk, rfl, hF, ht⟩ := hrel
    clear hF0
    by_cases hlt : k < ne
    · obtain ⟨_, f1, f2, _⟩ := own_geti hF hlt
      have hcell := (own_geti hF hlt).1
      have hF2 := own_seti (t := k) (d := -1) hF
      have hsx : (List.replicate k (-1 : Int) ++ List.replicate (ne - k) 0).set k (-1) = List.replicate (k + 1) (-1) ++ List.replicate (ne - (k + 1)) 0 := by
        refine List.ext_getElem (by simp; omega) (fun i h1 h2 => ?_)
        rw [List.getElem_set]
        simp only [List.getElem_append, List.getElem_replicate, List.length_replicate]
        (repeat' split) <;> omega
      rw [hsx] at hF2
      have HF2 := Lib.hid hF2
      have HT := Lib.hid (Tch.trans ht (tch_cell qf k (.int .i64 (-1))) (fun _ _ e => e))
      clear hF hF2 ht hsx
      go_wp2
      go_roundw
      case rel => exact ⟨k + 1, by omega, by go_num, HF2.out, HT.out⟩
      case measure => simp [intOf]; omega
    · have hkn : k = ne := by omega
      have hF1 : wr.ownsRow 0 3 1 (.slice (some ⟨qf, 0, none⟩) ne ne) ne (icells (List.replicate ne (-1))) := by
        have : List.replicate k (-1 : Int) ++ List.replicate (ne - k) 0 = List.replicate ne (-1) := by rw [hkn]; simp
        rw [this] at hF; exact hF
      have hbr : Below w0.heap.size w0 wr := hb1.trans (ht.below hb1.size (fun b hb e => by omega))
      have hzr := hbr.size
      have hqr : qf < wr.heap.size := (hF1.lt qf rfl).2
      have HF1 := Lib.hid hF1
      have hx0r := (hbr.cell (p := ⟨w.heap.size, 0, none⟩) hzl).trans hx0
      have hx1r := (hbr.cell (p := ⟨w.heap.size, 1, none⟩) hzl).trans hx1
      have hx2r := (hbr.cell (p := ⟨w.heap.size, 2, none⟩) hzl).trans hx2
      have HGO := Lib.hid (goalsR_any ai ae al ni ci ne ce nl cl A _ c goal wr B rfl (hs'.below hbr (by omega)) (by omega) (by omega) (by omega))
      have HBR := Lib.hid hbr
      clear hF hF1 ht hkn hqf hs' hb1 hbr
      obtain ⟨wa, rfl⟩ : ∃ W, W = wr := ⟨_, rfl⟩
      go_wp2_with fail
      refine Calls.mono HGO.out ?_
      rintro e wG ⟨vo, rfl, hOp, hbG, _⟩
      obtain ⟨Ag, cg, rfl, hsg⟩ := own_sl hOp
      have hzG := hbG.size
      have hF2 := own_below HF1.out hbG
      have HOP := Lib.hid hOp
      have HBG := Lib.hid hbG
      have hF3 : wG.ownsRow 0 3 1 (.slice (some ⟨qf, 0, none⟩) ne ne) ne (icells (((goalsG ne goal).take 0).foldl (fun D i => D.set i.toNat 0) (List.replicate ne (-1)))) := hF2
      have hzlr : w.heap.size < wa.heap.size := by omega
      have g0 := (hbG.cell (p := ⟨w.heap.size, 0, none⟩) hzlr).trans hx0r
      have g1 := (hbG.cell (p := ⟨w.heap.size, 1, none⟩) hzlr).trans hx1r
      have g2 := (hbG.cell (p := ⟨w.heap.size, 2, none⟩) hzlr).trans hx2r
      clear HGO HF1 hF2 hOp hbG hx0r hx1r hx2r hx0 hx1 hx2 hsg
      have hag : ∀ g, (Value.slice Ag (goalsG ne goal).length cg).ownBlock = some g → wa.heap.size ≤ g := fun g hg => (HOP.out.lt g hg).1
      have HAG := Lib.hid hag
      clear hag
      generalize hge : goalsG ne goal = ends at *
      have HGE := Lib.hid hge
      clear hge
      go_wp2
      go_loopw [8] (fun i wr => ∃ k : Nat, k ≤ ends.length ∧ i = .int .i64 k ∧ wr.ownsRow 0 3 1 (.slice (some ⟨qf, 0, none⟩) ne ne) ne (icells ((ends.take k).foldl (fun D i => D.set i.toNat 0) (List.replicate ne (-1)))) ∧ Tch (fun b => b = qf) wG wr) (fun i _ => ends.length - (intOf i).toNat)
      case atStart => exact ⟨0, by omega, rfl, hF3, Tch.refl _ _⟩
      case round =>
        clear hF3
        obtain ⟨k, hk, rfl, hF, ht⟩ := hrel
        have hzr2 := ht.size
        have hop := own_tch HOP.out ht (fun g hg e => by have := HAG.out g hg; omega)
        by_cases hlt : k < ends.length
        · obtain ⟨A', c', hv, hsg⟩ := own_sl hop
          cases hv
          obtain ⟨b, o, rfl, hbb, hc0⟩ := rd_int hsg.rd hlt
          have hnd := HG.out.rng _ (List.getElem_mem hlt)
          have hsn : (ends.take (k + 1)).foldl (fun D i => D.set i.toNat 0) (List.replicate ne (-1)) = ((ends.take k).foldl (fun D i => D.set i.toNat 0) (List.replicate ne (-1))).set (ends[k]).toNat (0 : Int) := by
            rw [take_snoc ends k hlt, List.foldl_append]; rfl
          generalize ends[k] = x at *
          obtain ⟨t, rfl, htn⟩ := isNd_nat hnd
          rw [Int.toNat_natCast] at hsn
          obtain ⟨hcell, f1, f2, _⟩ := own_geti hF htn
          have hF2 := own_seti (t := t) (d := 0) hF
          rw [← hsn] at hF2
          have HF2 := Lib.hid hF2
          have HT := Lib.hid (Tch.trans ht (tch_cell qf t (.int .i64 0)) (fun _ _ e => e))
          clear hF hF2 ht hsn hnd hop hsg
          go_wp2
          go_roundw
          case rel => exact ⟨k + 1, by omega, by go_num, HF2.out, HT.out⟩
          case measure => simp [intOf]; omega
        · have hF1 : wr.ownsRow 0 3 1 (.slice (some ⟨qf, 0, none⟩) ne ne) ne (icells (dstN ne (turnE G.edges) ends 0).1) := by
            rw [List.take_of_length_le (by omega)] at hF; exact hF
          have g0r := cell_tch g0 ht (show ¬ (w.heap.size = qf) by omega)
          have g1r := cell_tch g1 ht (show ¬ (w.heap.size = qf) by omega)
          have g2r := cell_tch g2 ht (show ¬ (w.heap.size = qf) by omega)
          have hbr : Below w0.heap.size w0 wr := (HBR.out.trans (HBG.out.mono hzr)).trans (ht.below (by omega) (fun b hb e => by omega))
          have hzr3 := hbr.size
          have HTU := Lib.hid (turnR_any ai ae al ni ci ne ce nl cl G wr B (h'.below hbr hB0) (by omega) hi (by omega) hl KE hr hKE hK2)
          have HF1 := Lib.hid hF1
          have HOP2 := Lib.hid hop
          have HB0 := Lib.hid hbr
          clear hF hF1 ht hop hbr h' hr g0 g1 g2 HOP HBR HBG
          obtain ⟨wl0, rfl⟩ : ∃ W, W = wr := ⟨_, rfl⟩
          go_wp2_with fail
          refine Calls.mono HTU.out ?_
          rintro e wT ⟨bi, mi, di, be, me, de, bl, ml, dl, rfl, hGT, hbT, vsT, hOT⟩
          have hzT := hbT.size
          have hme : me = ne := by have := hOT.len'; rw [List.length_map, HTL.out] at this; exact this
          subst hme
          obtain ⟨wD, hwD, hbD, hzD, e0, e1, e2⟩ := boxed3 wT (.slice bi mi di) (.slice be me de) (.slice bl ml dl) 26
          have HWD := Lib.hid hwD
          have hb3 : Below wl0.heap.size wl0 wD := hbT.trans (hbD.mono hzT)
          have HFAR := Lib.hid (own_below HF1.out hb3)
          have HO := Lib.hid (hOT.below hbD)
          have HOP3 := Lib.hid (own_below HOP2.out hb3)
          have hog : ∀ g, (Value.slice Ag ends.length cg).ownBlock = some g → g < wl0.heap.size := fun g hg => (HOP2.out.lt g hg).2
          have HOG := Lib.hid hog
          have HB3 := Lib.hid hb3
          have hzDl : wT.heap.size < wD.heap.size := by omega
          have hT1 := HTO.out
          clear hwD hb3 hog hGT hbT hOT HTU HF1 HOP2 hzD hbD e0 e2 g0r g2r HTO
          generalize turnE G.edges = T at *
          have HTO := Lib.hid hT1
          clear hT1
          go_wp2
          rw [← HWD.out]
          clear HWD
          have hR0 : QRelF wD qf me wa.heap.size (.slice Ag ends.length cg) (.slice Ag ends.length cg) (dstN me T ends 0) wD := ⟨HFAR.out, HOP3.out, fun g hg => .inl hg, Tch.refl _ _⟩
          clear HFAR HOP3
          have hbt : ¬ QS qf (.slice Ag ends.length cg) wD.heap.size wT.heap.size := fun hS => by
            rcases hS with e | e | e
            · omega
            · have := HOG.out _ e; omega
            · omega
          have HBT := Lib.hid hbt
          have HE1 := Lib.hid e1
          clear hbt e1
          generalize wT.heap.size = bt at *
          go_loopw [7, 10] (fun v i wr => ∃ k : Nat, i = .int .i64 k ∧ k ≤ (dstN me T ends k).2.length ∧ QRelF wD qf me wa.heap.size (.slice Ag ends.length cg) v (dstN me T ends k) wr) (fun _ i _ => me + 1 - (intOf i).toNat)
          case atStart => exact ⟨0, rfl, by omega, hR0⟩
          case round =>
            clear hR0
            obtain ⟨k, rfl, hk, hR⟩ := hrel
            have hok := dstN_ok HTO.out HG.out k
            have hle := hok.le
            obtain ⟨Ao, co, rfl, hso⟩ := own_sl hR.op
            have c1 := cell_tch HE1.out hR.t HBT.out
            have hzR := hR.t.size
            by_cases hlt : k < (dstN me T ends k).2.length
            · have hnx := dstN_next (n := me) (T := T) (goals := ends) (k := k) (List.getElem?_eq_getElem hlt)
              have hat := hok.at_ k _ (List.getElem?_eq_getElem hlt)
              have hnd := hok.rng _ (List.getElem_mem hlt)
              obtain ⟨bo, oo1, rfl, hbo, hco⟩ := rd_int hso.rd hlt
              have hpos : (dstN me T ends k).2[k]? = some (dstN me T ends k).2[k] := List.getElem?_eq_getElem hlt
              generalize (dstN me T ends k).2[k] = x at *
              obtain ⟨a, rfl, han⟩ := isNd_nat hnd
              rw [Int.toNat_natCast] at hnx hat
              have haT : a < T.length := by rw [HTL.out]; exact han
              obtain ⟨be', A', c', rfl, hc0, hnb, hrow, hnr⟩ := rows1 (qf := qf) (v0 := .slice Ag ends.length cg) HO.out haT (by omega) HOG.out
              have hc2 := cell_tch hc0 hR.t hnb
              have hxl : (T[a]).length ≤ 1000000000 := hr2 _ (List.getElem_mem haT)
              have hxm : ∀ y ∈ tgts T[a], isNd me y = true := fun y hy => HTO.out a y (by simpa [List.getD, haT] using hy)
              have hxT : T.getD a [] = T[a] := by simp [List.getD, haT]
              rw [hxT] at hnx
              generalize T[a] = x at *
              generalize hgs : dstN me T ends k = s at *
              have i0 : (0 : Int) ≤ (a : Int) := by omega
              have i1 : (a : Int) < (me : Int) := by omega
              have j0 : (0 : Int) ≤ (k : Int) := by omega
              have j1 : (k : Int) < (s.2.length : Int) := by omega
              have hz0 : 0 ≤ s.1.getD a 0 := hat.1
              have hz1 : s.1.getD a 0 ≤ 65536 := by omega
              have hsl : s.1.length = me := hok.len
              generalize hz : s.1.getD a 0 = z at *
              have HZ := Lib.hid hz
              have HSL := Lib.hid hsl
              have HPO := Lib.hid hpos
              have HNX := Lib.hid hnx
              have HGS := Lib.hid hgs
              have HR := Lib.hid hR
              have HXM := Lib.hid hxm
              have HROW := Lib.hid hrow
              have HNR := Lib.hid hnr
              clear hnx hat hnd hso hpos hxm hrow hnr hxT hgs hR hok hz hsl hc0 hnb
              go_wp2_with fail
              refine wp_region_held_drew (S := fun w' => w'.cell? ⟨bt, 1, none⟩ = some (.slice (some ⟨be', 0, none⟩) me de) ∧ w'.cell? ⟨bo, oo1 + k, none⟩ = some (.int .i64 (a : Int)) ∧ w'.cell? ⟨be', a, none⟩ = some (.slice A' x.length c')) (by kernel_rfl) ⟨c1, hco, hc2⟩ (fun hS => ?_)
              refine wpAnyH_takeD (i := 0) (v := ?_) rfl (by kernel_rfl) (by kernel_rfl) (by kernel_rfl) (fun _ _ _ h => h) (Or.inl ⟨by kernel_rfl, ?_⟩) hS ?_
              rotate_left 1
              · (intro w' hSw; (try dsimp only at hSw); go_simp; try (with_reducible rfl))
              try simp only [Act.put, List.setIfInBounds_toArray, List.set_cons_zero, List.set_cons_succ]
              refine wpAnyH_takeD (i := 1) (v := ?_) rfl (by kernel_rfl) (by kernel_rfl) (by kernel_rfl) (fun _ _ _ h => h) (Or.inl ⟨by kernel_rfl, ?_⟩) hS ?_
              rotate_left 1
              · (intro w' hSw; (try dsimp only at hSw); go_simp; try (with_reducible rfl))
              try simp only [Act.put, List.setIfInBounds_toArray, List.set_cons_zero, List.set_cons_succ]
              refine wpAnyH_takeD (i := 2) (v := ?_) rfl (by kernel_rfl) (by kernel_rfl) (by kernel_rfl) (fun _ _ _ h => h) (Or.inl ⟨by kernel_rfl, ?_⟩) hS ?_
              rotate_left 1
              · (intro w' hSw; (try dsimp only at hSw); go_simp; try (with_reducible rfl))
              try simp only [Act.put, List.setIfInBounds_toArray, List.set_cons_zero, List.set_cons_succ]
              refine wpAnyH_takeD (i := 3) (v := ?_) rfl (by kernel_rfl) (by kernel_rfl) (by kernel_rfl) (fun _ _ _ h => h) (Or.inl ⟨by kernel_rfl, ?_⟩) hS ?_
              rotate_left 1
              · (intro w' hSw; (try dsimp only at hSw); go_simp; try (with_reducible rfl))
              try simp only [Act.put, List.setIfInBounds_toArray, List.set_cons_zero, List.set_cons_succ]
              refine wpAnyH_takeD (i := 4) (v := ?_) rfl (by kernel_rfl) (by kernel_rfl) (by kernel_rfl) (fun _ _ _ h => h) (Or.inl ⟨by kernel_rfl, ?_⟩) hS ?_
              rotate_left 1
              · (intro w' hSw; (try dsimp only at hSw); go_simp; try (with_reducible rfl))
              try simp only [Act.put, List.setIfInBounds_toArray, List.set_cons_zero, List.set_cons_succ]
              refine wpAnyH_takeD (i := 5) (v := ?_) rfl (by kernel_rfl) (by kernel_rfl) (by kernel_rfl) (fun _ _ _ h => h) (Or.inl ⟨by kernel_rfl, ?_⟩) hS ?_
              rotate_left 1
              · (intro w' hSw; (try dsimp only at hSw); go_simp; try (with_reducible rfl))
              try simp only [Act.put, List.setIfInBounds_toArray, List.set_cons_zero, List.set_cons_succ]
              refine wpAnyH_takeD (i := 6) (v := ?_) rfl (by kernel_rfl) (by kernel_rfl) (by kernel_rfl) (fun _ _ _ h => h) (Or.inl ⟨by kernel_rfl, ?_⟩) hS ?_
              rotate_left 1
              · (intro w' hSw; (try dsimp only at hSw); go_simp; try (with_reducible rfl))
              try simp only [Act.put, List.setIfInBounds_toArray, List.set_cons_zero, List.set_cons_succ]
              refine wpAnyH_takeD (i := 7) (v := ?_) rfl (by kernel_rfl) (by kernel_rfl) (by kernel_rfl) (fun _ _ _ h => h) (Or.inl ⟨by kernel_rfl, ?_⟩) hS ?_
              rotate_left 1
              · (intro w' hSw; (try dsimp only at hSw); go_simp; try (with_reducible rfl))
              try simp only [Act.put, List.setIfInBounds_toArray, List.set_cons_zero, List.set_cons_succ]
              refine wpAnyH_takeD (i := 8) (v := ?_) rfl (by kernel_rfl) (by kernel_rfl) (by kernel_rfl) (fun _ _ _ h => h) (Or.inl ⟨by kernel_rfl, ?_⟩) hS ?_
              rotate_left 1
              · (intro w' hSw; (try dsimp only at hSw); go_simp; try (with_reducible rfl))
              try simp only [Act.put, List.setIfInBounds_toArray, List.set_cons_zero, List.set_cons_succ]
              refine wpAnyH_done (by kernel_rfl) ?_ _
              obtain ⟨wp, hwp⟩ : ∃ wp : World, wp = wr.drew := ⟨_, rfl⟩
              have hR0 : QRelF wD qf me wa.heap.size (.slice Ag ends.length cg) (.slice (some ⟨bo, oo1, none⟩) s.2.length co) (((tgts x).take 0).foldl (dvis (z + 1)) s) wp := by rw [hwp]; exact HR.out.below (Below.drew (Below.refl _ _))
              rw [← hwp]
              clear hwp HR
              go_wp2
              go_loopw [7, 12] (fun v i wr => ∃ m : Nat, m ≤ x.length ∧ i = .int .i64 m ∧ QRelF wD qf me wa.heap.size (.slice Ag ends.length cg) v (((tgts x).take m).foldl (dvis (z + 1)) s) wr) (fun _ i _ => x.length - (intOf i).toNat)
              case atStart => exact ⟨0, by omega, rfl, hR0⟩
              case round =>
                clear hR0 c1 hco hc2
                obtain ⟨m, hm, rfl, hR⟩ := hrel
                obtain ⟨Ao, co, rfl, hso⟩ := own_sl hR.op
                by_cases hltm : m < x.length
                · have hro := own_tch HROW.out hR.t HNR.out
                  obtain ⟨A2, c2, hv, hs2⟩ := own_sl hro
                  cases hv
                  obtain ⟨bb, oo, rfl, hbbb, hd0, hd1'⟩ := rd_nd hs2.rd hltm
                  have hsn := dF_snoc (d := z + 1) hltm s
                  have hnd := HXM.out x[m].op (by simp only [tgts, List.mem_map]; exact ⟨x[m], List.getElem_mem hltm, rfl⟩)
                  obtain ⟨⟨r, hr1, _⟩, hr2', hr3⟩ := dfold_new (d := z + 1) (by omega) ((tgts x).take m) s (fun i hi => by have := isNd_iff.1 (HXM.out i (List.mem_of_mem_take hi)); rw [HSL.out]; exact this)
                  have hza := hr2' a (by rw [HZ.out]; exact hz0)
                  rw [HZ.out] at hza
                  have hlen2 := dvisF_le (d := z + 1) ((tgts x).take m) s
                  rw [List.length_take] at hlen2
                  have hpo : (((tgts x).take m).foldl (dvis (z + 1)) s).2[k]? = some (a : Int) := by
                    rw [hr1, List.getElem?_append_left (List.getElem?_eq_some_iff.1 HPO.out).1]; exact HPO.out
                  have hkl2 : k < (((tgts x).take m).foldl (dvis (z + 1)) s).2.length := (List.getElem?_eq_some_iff.1 hpo).1
                  obtain ⟨bo2, oo2, rfl, hbo2, hco2⟩ := rd_int hso.rd hkl2
                  have hpe : (((tgts x).take m).foldl (dvis (z + 1)) s).2[k] = (a : Int) := by
                    rw [List.getElem?_eq_getElem hkl2] at hpo; injection hpo
                  rw [hpe] at hco2
                  generalize ((tgts x).take m).foldl (dvis (z + 1)) s = s' at *
                  generalize x[m] = e at *
                  obtain ⟨op, act⟩ := e
                  dsimp only at *
                  obtain ⟨t, rfl, htn⟩ := isNd_nat hnd
                  obtain ⟨g1, g2, g3, _⟩ := own_geti hR.far htn
                  obtain ⟨ga, _, _, _⟩ := own_geti hR.far han
                  rw [hza] at ga
                  have hpl : s'.2.length ≤ 2000000000 := by omega
                  have hzb := hR.t.size
                  have l0 : (0 : Int) ≤ (t : Int) := by omega
                  have l1 : (t : Int) < (me : Int) := by omega
                  have m0 : (0 : Int) ≤ (m : Int) := by omega
                  have m1 : (m : Int) < (x.length : Int) := by omega
                  have k1 : (k : Int) < (s'.2.length : Int) := by omega
                  have HS := Lib.hid hsn
                  have HR := Lib.hid hR
                  clear hro hs2 hsn hlen2 hnd hR hso hr1 hr2' hr3 hza hpo hpe
                  by_cases hc : s'.1.getD t 0 < 0
                  · have hcb : decide (s'.1.getD t 0 < 0) = true := by simpa using hc
                    have HX := Lib.hid (dvis_new (d := z + 1) hc)
                    have htell := QRelF.tell (t := t) (d := z + 1) (show qf < wa.heap.size by omega) HR.out
                    generalize s'.1.getD t 0 = y at *
                    obtain ⟨k1', k2, k3⟩ := htell
                    have HK1 := Lib.hid k1'
                    have HK3 := Lib.hid k3
                    have HK2 := Lib.hid k2
                    have hw1 : IntKind.i64.wrap (z + 1) = z + 1 := IntWalk.i64_in _ (by omega)
                    have HW1 := Lib.hid hw1
                    clear k1' k2 k3 hc hw1
                    go_wp2_with fail
                    have hw1 := HW1.out
                    refine wp_region_T (S := fun w' => w'.cell? ⟨bb, oo + m * 2, none⟩ = some (.int .i64 (t : Int)) ∧ w'.cell? ⟨bo2, oo2 + k, none⟩ = some (.int .i64 (a : Int)) ∧ w'.cell? ⟨qf, a, none⟩ = some (.int .i64 z)) 15 (by kernel_rfl) ⟨hd0, hco2, ga⟩ (fun hS => ?_)
                    refine wpAnyT_takeD (i := 0) (v := ?_) rfl (by kernel_rfl) (by kernel_rfl) (by kernel_rfl) (by kernel_rfl) (fun _ _ _ h => h) (Or.inl ⟨by kernel_rfl, ?_⟩) hS ?_
                    rotate_left 1
                    · (intro w' hSw; (try dsimp only at hSw); go_simp; try (with_reducible rfl))
                    try simp only [Act.put, List.setIfInBounds_toArray, List.set_cons_zero, List.set_cons_succ]
                    refine wpAnyT_takeD (i := 1) (v := ?_) rfl (by kernel_rfl) (by kernel_rfl) (by kernel_rfl) (by kernel_rfl) (fun _ _ _ h => h) (Or.inl ⟨by kernel_rfl, ?_⟩) hS ?_
                    rotate_left 1
                    · (intro w' hSw; (try dsimp only at hSw); go_simp; try (with_reducible rfl))
                    try simp only [Act.put, List.setIfInBounds_toArray, List.set_cons_zero, List.set_cons_succ]
                    refine wpAnyT_takeD (i := 2) (v := ?_) rfl (by kernel_rfl) (by kernel_rfl) (by kernel_rfl) (by kernel_rfl) (fun _ _ _ h => h) (Or.inl ⟨by kernel_rfl, ?_⟩) hS ?_
                    rotate_left 1
                    · (intro w' hSw; (try dsimp only at hSw); go_simp; try (with_reducible rfl))
                    try simp only [Act.put, List.setIfInBounds_toArray, List.set_cons_zero, List.set_cons_succ]
                    refine wpAnyT_takeD (i := 3) (v := ?_) rfl (by kernel_rfl) (by kernel_rfl) (by kernel_rfl) (by kernel_rfl) (fun _ _ _ h => h) (Or.inl ⟨by kernel_rfl, ?_⟩) hS ?_
                    rotate_left 1
                    · (intro w' hSw; (try dsimp only at hSw); go_simp; try (with_reducible rfl))
                    try simp only [Act.put, List.setIfInBounds_toArray, List.set_cons_zero, List.set_cons_succ]
                    refine wpAnyT_takeD (i := 4) (v := ?_) rfl (by kernel_rfl) (by kernel_rfl) (by kernel_rfl) (by kernel_rfl) (fun _ _ _ h => h) (Or.inl ⟨by kernel_rfl, ?_⟩) hS ?_
                    rotate_left 1
                    · (intro w' hSw; (try dsimp only at hSw); go_simp; try (with_reducible rfl))
                    try simp only [Act.put, List.setIfInBounds_toArray, List.set_cons_zero, List.set_cons_succ]
                    refine wpAnyT_takeD (i := 5) (v := ?_) rfl (by kernel_rfl) (by kernel_rfl) (by kernel_rfl) (by kernel_rfl) (fun _ _ _ h => h) (Or.inl ⟨by kernel_rfl, ?_⟩) hS ?_
                    rotate_left 1
                    · (intro w' hSw; (try dsimp only at hSw); go_simp; try (with_reducible rfl))
                    try simp only [Act.put, List.setIfInBounds_toArray, List.set_cons_zero, List.set_cons_succ]
                    refine wpAnyT_takeD (i := 6) (v := ?_) rfl (by kernel_rfl) (by kernel_rfl) (by kernel_rfl) (by kernel_rfl) (fun _ _ _ h => h) (Or.inl ⟨by kernel_rfl, ?_⟩) hS ?_
                    rotate_left 1
                    · (intro w' hSw; (try dsimp only at hSw); go_simp; try (with_reducible rfl))
                    try simp only [Act.put, List.setIfInBounds_toArray, List.set_cons_zero, List.set_cons_succ]
                    refine wpAnyT_takeD (i := 7) (v := ?_) rfl (by kernel_rfl) (by kernel_rfl) (by kernel_rfl) (by kernel_rfl) (fun _ _ _ h => h) (Or.inl ⟨by kernel_rfl, ?_⟩) hS ?_
                    rotate_left 1
                    · (intro w' hSw; (try dsimp only at hSw); go_simp; try (with_reducible rfl))
                    try simp only [Act.put, List.setIfInBounds_toArray, List.set_cons_zero, List.set_cons_succ]
                    refine wpAnyT_takeD (i := 8) (v := ?_) rfl (by kernel_rfl) (by kernel_rfl) (by kernel_rfl) (by kernel_rfl) (fun _ _ _ h => h) (Or.inl ⟨by kernel_rfl, ?_⟩) hS ?_
                    rotate_left 1
                    · (intro w' hSw; (try dsimp only at hSw); go_simp; try (with_reducible rfl))
                    try simp only [Act.put, List.setIfInBounds_toArray, List.set_cons_zero, List.set_cons_succ]
                    refine wpAnyT_takeD (i := 9) (v := ?_) rfl (by kernel_rfl) (by kernel_rfl) (by kernel_rfl) (by kernel_rfl) (fun _ _ _ h => h) (Or.inl ⟨by kernel_rfl, ?_⟩) hS ?_
                    rotate_left 1
                    · (intro w' hSw; (try dsimp only at hSw); go_simp; try (with_reducible rfl))
                    try simp only [Act.put, List.setIfInBounds_toArray, List.set_cons_zero, List.set_cons_succ]
                    refine wpAnyT_takeD (i := 10) (v := ?_) rfl (by kernel_rfl) (by kernel_rfl) (by kernel_rfl) (by kernel_rfl) (fun _ _ _ h => h) (Or.inl ⟨by kernel_rfl, ?_⟩) hS ?_
                    rotate_left 1
                    · (intro w' hSw; (try dsimp only at hSw); go_simp; try (with_reducible rfl))
                    try simp only [Act.put, List.setIfInBounds_toArray, List.set_cons_zero, List.set_cons_succ]
                    refine wpAnyT_takeD (i := 11) (v := ?_) rfl (by kernel_rfl) (by kernel_rfl) (by kernel_rfl) (by kernel_rfl) (fun _ _ _ h => h) (Or.inl ⟨by kernel_rfl, ?_⟩) hS ?_
                    rotate_left 1
                    · (intro w' hSw; (try dsimp only at hSw); go_simp; try (with_reducible rfl))
                    try simp only [Act.put, List.setIfInBounds_toArray, List.set_cons_zero, List.set_cons_succ]
                    refine wpAnyT_takeD (i := 12) (v := ?_) rfl (by kernel_rfl) (by kernel_rfl) (by kernel_rfl) (by kernel_rfl) (fun _ _ _ h => h) (Or.inl ⟨by kernel_rfl, ?_⟩) hS ?_
                    rotate_left 1
                    · (intro w' hSw; (try dsimp only at hSw); go_simp; try (with_reducible rfl))
                    try simp only [Act.put, List.setIfInBounds_toArray, List.set_cons_zero, List.set_cons_succ]
                    refine wpAnyT_takeD (i := 13) (v := ?_) rfl (by kernel_rfl) (by kernel_rfl) (by kernel_rfl) (by kernel_rfl) (fun _ _ _ h => h) (Or.inl ⟨by kernel_rfl, ?_⟩) hS ?_
                    rotate_left 1
                    · (intro w' hSw; (try dsimp only at hSw); go_simp; try (with_reducible rfl))
                    try simp only [Act.put, List.setIfInBounds_toArray, List.set_cons_zero, List.set_cons_succ]
                    refine wpAnyT_takeD (i := 14) (v := ?_) rfl (by kernel_rfl) (by kernel_rfl) (by kernel_rfl) (by kernel_rfl) (fun _ _ _ h => h) (Or.inl ⟨by kernel_rfl, ?_⟩) hS ?_
                    rotate_left 1
                    · (intro w' hSw; (try dsimp only at hSw); go_simp; try (with_reducible rfl))
                    try simp only [Act.put, List.setIfInBounds_toArray, List.set_cons_zero, List.set_cons_succ]
                    refine wpAnyT_endD rfl (by kernel_rfl) (by kernel_rfl) (fun K hK => ?_)
                    go_simp
                    refine hK.out _ _ ?_
                    clear hK
                    clear hw1
                    have k2 := HK2.out
                    have hbq : bb ≠ qf := by have := (HROW.out.lt bb rfl).1; omega
                    have hd0' : (wr.setCell ⟨qf, t, none⟩ (.int .i64 (z + 1))).cell? ⟨bb, oo + m * 2, none⟩ = some (.int .i64 (t : Int)) := (World.cell?_setCell_far _ _ _ _ (fun e => hbq e.symm)).trans hd0
                    have hz2 : (wr.setCell ⟨qf, t, none⟩ (.int .i64 (z + 1))).heap.size = wr.heap.size := by simp [World.setCell]
                    clear hd0 hco2 ga hS
                    go_wp2_with (at_builtin; refine wpList_push rfl (.tmp 87) (.tmp 93) 22 rfl wa.heap.size 3 1 8 sliceInt _ _ _ (k2.alloc _) rfl wr.heap.size #[.int .i64 (t : Int)] rfl (heap_new (by simp [World.setCell])) rfl (by simp [Value.oneCell']) (by omega) (by omega) (by simp [World.setCell]; omega) ?_; intro v3 w3 hown3 ht3 hat3 hne3; have HR3 := Lib.hid (QRelF.open (t := t) (d := z + 1) (show qf < wa.heap.size by omega) HK1.out k2 HR.out.at_ HK3.out rfl hown3 (Tch.undrew ht3) hat3); clear hown3 ht3 hat3)
                    go_roundw
                    case rel => exact ⟨m + 1, by omega, by go_num, by rw [HS.out, HX.out]; exact HR3.out⟩
                    case measure => simp [intOf]; omega
                  · have hcb : decide (s'.1.getD t 0 < 0) = false := by simpa using hc
                    have HX := Lib.hid (dvis_old (d := z + 1) hc)
                    generalize s'.1.getD t 0 = y at *
                    clear hc
                    go_wp2
                    go_roundw
                    case rel => exact ⟨m + 1, by omega, by go_num, by rw [HS.out, HX.out]; exact HR.out⟩
                    case measure => simp [intOf]; omega
                · have hml : m = x.length := by omega
                  rw [List.take_of_length_le (by rw [tgts, List.length_map]; omega), ← HNX.out] at hR
                  have hkk : k + 1 ≤ (dstN me T ends (k + 1)).2.length := by
                    have := (dvisF_len (d := z + 1) (tgts x) s).2
                    rw [← HNX.out] at this; omega
                  have HR := Lib.hid hR
                  rw [show (((tgts x).take m).foldl (dvis (z + 1)) s) = dstN me T ends (k + 1) by rw [List.take_of_length_le (by rw [tgts, List.length_map]; omega), ← HNX.out]] at hso ⊢
                  clear hR hml hso
                  go_wp2
                  go_roundw
                  case rel => exact ⟨k + 1, by go_num, hkk, HR.out⟩
                  case measure => simp [intOf]; omega
            · have hend := farG_end HTO.out HG.out (k := k) (by omega) (by omega)
              have HE := Lib.hid hend
              have HR := Lib.hid hR
              clear hend hR hok hso
              generalize (dstN me T ends k) = s at *
              go_wp2
              go_ret
              refine ⟨_, rfl, by rw [HE.out]; exact own_at HR.out.far (by have := HQE.out; omega), ?_, by simp⟩
              have e1 : Below w0.heap.size w0 wD := HB0.out.trans (HB3.out.mono hzr3)
              exact hb0.trans ((e1.trans (HR.out.t.below e1.size (fun b hb hS => by
                rcases hS with e | e | e
                · omega
                · have := HAG.out _ e; omega
                · omega))).mono (by omega))
end
end Go.Proofs.Ytfpncpjdmgfkbaa
