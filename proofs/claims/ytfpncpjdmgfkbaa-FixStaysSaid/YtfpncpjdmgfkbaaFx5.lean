/- The walks of fix: leads. -/
import Derived.Test.YtfpncpjdmgfkbaaFx4
namespace Go.Proofs.Ytfpncpjdmgfkbaa
open Go.RowKit

section
variable (ai ae al : Option Addr) (ni ci ne ce nl cl : Nat)
set_option maxHeartbeats 1000000 in
theorem leads_any (G : Gph) (a t : Int) (w : World) (B : Nat) (h : GrRd w B ai ni ci ae ne ce al nl cl G) (hB : B ≤ w.heap.size) (_hne : ne ≤ 1000000000) (hr : ∀ l ∈ G.edges, l.length ≤ 1000000000) :
    Calls Try.prog 76 #[.agg #[.slice ai ni ci, .slice ae ne ce, .slice al nl cl], .int .i64 a, .int .i64 t] w (Tru w (isNd ne a && (isNd ne t && edgeB (G.edges.getD a.toNat []) t))) := by
  obtain ⟨w0, hw0, hb0, hz0, hx0, hx1, hx2⟩ := boxed3 w (.slice ai ni ci) (.slice ae ne ce) (.slice al nl cl) 26
  have HW0 := Lib.hid hw0
  have HZ0 := Lib.hid hz0
  clear hw0
  have hzl : w.heap.size < w0.heap.size := by omega
  clear hz0
  have HN1 := fun W => fnode_any ai ae al ni ci ne ce nl cl a W
  have HN2 := fun W => fnode_any ai ae al ni ci ne ce nl cl t W
  cases hda : isNd ne a
  · have HDA := Lib.hid hda
    clear hda
    have HC := Lib.hid (HN1 w0)
    clear HN1 HN2
    go_enter Try.func76, Try.ntmps76
    go_wp2_with fail
    rw [← HW0.out]
    refine Calls.mono HC.out ?_
    rintro e w1 ⟨rfl, hb1⟩
    rw [HDA.out]
    clear HC
    go_wp2
    go_ret
    exact ⟨ret_bool (by simp), hb0.trans (hb1.mono (by omega))⟩
  · cases hdt : isNd ne t
    · have HDA := Lib.hid hda
      have HDT := Lib.hid hdt
      clear hda hdt
      have HC := Lib.hid (HN1 w0)
      have HC2 := Lib.hid HN2
      clear HN1 HN2
      go_enter Try.func76, Try.ntmps76
      go_wp2_with fail
      rw [← HW0.out]
      refine Calls.mono HC.out ?_
      rintro e w1 ⟨rfl, hb1⟩
      rw [HDA.out]
      have k0 := (hb1.cell (p := ⟨w.heap.size, 0, none⟩) hzl).trans hx0
      have k1 := (hb1.cell (p := ⟨w.heap.size, 1, none⟩) hzl).trans hx1
      have k2 := (hb1.cell (p := ⟨w.heap.size, 2, none⟩) hzl).trans hx2
      clear HC
      go_wp2_with fail
      refine Calls.mono (HC2.out w1) ?_
      rintro e w2 ⟨rfl, hb2⟩
      rw [HDT.out]
      clear HC2
      go_wp2
      go_ret
      exact ⟨ret_bool (by simp), hb0.trans ((hb1.trans (hb2.mono hb1.size)).mono (by omega))⟩
    · have h' := h.below hb0 hB
      obtain ⟨a', rfl, haln⟩ := isNd_nat hda
      obtain ⟨L1, L2, L3⟩ := h.lens
      have hal : a' < G.edges.length := by omega
      obtain ⟨b, o, A', n', c', rfl, hbb, hc0, hrow⟩ := h'.he.at_ (ed_take hal)
      have hlen := hr G.edges[a'] (List.getElem_mem hal)
      have hnx : n' = G.edges[a'].length := by have := hrow.len; rw [ncells_len] at this; omega
      have hxr : G.edges.getD (a' : Int).toNat [] = G.edges[a'] := by simp [List.getD, hal]
      rw [hxr]
      clear hxr
      generalize G.edges[a'] = x at *
      subst hnx
      have i0 : (0 : Int) ≤ (a' : Int) := by omega
      have i1 : (a' : Int) < (ne : Int) := by omega
      have HDA := Lib.hid hda
      have HDT := Lib.hid hdt
      have HC := Lib.hid (HN1 w0)
      have HC2 := Lib.hid HN2
      have HR := Lib.hid hrow
      have HBB := Lib.hid hbb
      clear L1 L2 L3 h h' HN1 HN2 hda hdt hrow
      go_enter Try.func76, Try.ntmps76
      go_wp2_with fail
      rw [← HW0.out]
      refine Calls.mono HC.out ?_
      rintro e w1 ⟨rfl, hb1⟩
      rw [HDA.out]
      have k0 := (hb1.cell (p := ⟨w.heap.size, 0, none⟩) hzl).trans hx0
      have k1 := (hb1.cell (p := ⟨w.heap.size, 1, none⟩) hzl).trans hx1
      have k2 := (hb1.cell (p := ⟨w.heap.size, 2, none⟩) hzl).trans hx2
      clear HC
      go_wp2_with fail
      refine Calls.mono (HC2.out w1) ?_
      rintro e w2 ⟨rfl, hb2⟩
      rw [HDT.out]
      have hbb2 : Below w0.heap.size w0 w2 := hb1.trans (hb2.mono hb1.size)
      have l0 := (hbb2.cell (p := ⟨w.heap.size, 0, none⟩) hzl).trans hx0
      have l1 := (hbb2.cell (p := ⟨w.heap.size, 1, none⟩) hzl).trans hx1
      have l2 := (hbb2.cell (p := ⟨w.heap.size, 2, none⟩) hzl).trans hx2
      have lc := (hbb2.cell (p := ⟨b, o + a', none⟩) (show b < w0.heap.size by have := HBB.out; omega)).trans hc0
      clear HC2 k0 k1 k2
      go_wp2
      go_loopw [25] (fun i wr => ∃ m : Nat, m ≤ x.length ∧ i = .int .i64 m ∧ Below w0.heap.size w0 wr ∧ Hid (edgeB (x.take m) t = false)) (fun i _ => x.length - (intOf i).toNat)
      case atStart => exact ⟨0, by omega, rfl, hbb2, Lib.hid rfl⟩
      case round =>
        obtain ⟨m, hm, rfl, hbr, ht⟩ := hrel
        clear l0 l1 l2 lc
        by_cases hlt : m < x.length
        · obtain ⟨bb, oo, rfl, hbbb, hd0, hd1⟩ := rd_nd (HR.out.rd.below hbr (by omega)) hlt
          have hs := edgeB_succ hlt t
          have hof := fun h => edgeB_of (b := t) hlt h
          generalize x[m] = e at *
          obtain ⟨op, act⟩ := e
          dsimp only at *
          have HS := Lib.hid hs
          have HO := Lib.hid hof
          have HB := Lib.hid (hbr.trans ((((Below.refl wr.heap.size wr).alloc (Nat.le_refl _) (.cells #[.int .i64 op, .int .i64 act] 42))).mono hbr.size))
          clear hs hof
          have d1 : decide ((m : Int) < (x.length : Int)) = true := by simp; omega
          by_cases heq : op = t
          · subst heq
            have e1 : (op == op) = true := by simp
            go_wp2
            go_ret
            exact ⟨ret_bool (by simp [HO.out (by simp)]), hb0.trans (HB.out.mono (by omega))⟩
          · have e1 : (op == t) = false := by simpa using heq
            have HE := Lib.hid heq
            clear heq
            go_wp2
            go_roundw
            case rel => exact ⟨m + 1, by omega, by go_num, HB.out, Lib.hid (by rw [HS.out, ht.out]; simpa using HE.out)⟩
            case measure => simp [intOf]; omega
        · have hkn : m = x.length := by omega
          have ht' := ht.out
          rw [hkn, List.take_length] at ht'
          have HT := Lib.hid ht'
          clear ht' hkn
          go_wp2
          go_ret
          exact ⟨ret_bool (by simp [HT.out]), hb0.trans (hbr.mono (by omega))⟩
end
end Go.Proofs.Ytfpncpjdmgfkbaa
