/- The walk of layer 27's reference: Holds. -/
import Derived.Test.YtamhjgkigjpbhaaDoorWr4
namespace Go.Proofs.YtamhjgkigjpbhaaDoor
open Go.RowKit

set_option maxHeartbeats 2000000 in
theorem rHolds_any (A A1 A2 : Option Addr) (c n1 c1 n2 c2 : Nat) (f : List Nd) (st lo : List Int) (w : World) (B B2 : Nat) (hf : Sl w B 2 A f.length c (ncells f)) (h : WRd w B2 A1 A2 n1 c1 n2 c2 st lo) (hB : B ≤ w.heap.size) (hB2 : B2 ≤ w.heap.size) (hl : n1 + n2 ≤ 60000) (hlf : f.length ≤ 10000) (hnn : ∀ k, 0 ≤ seqW st lo k) :
    Calls Tryd.prog 14 #[.slice A f.length c, .agg #[.slice A1 n1 c1, .slice A2 n2 c2]] w (Tru w (holdsW (wbit st lo) f st lo)) := by
  have HT := Lib.hid (fun (w' : World) (hb : Below w.heap.size w w') => truthR_any A A1 A2 c n1 c1 n2 c2 f st lo w' ((hf.below hb hB).up (Nat.le_trans hB hb.size)) ((h.below hb hB2).up (Nat.le_trans hB2 hb.size)) hl hlf hnn)
  clear h hf
  go_enter Tryd.func14, Tryd.ntmps14
  go_wp2_with fail
  refine Calls.mono (HT.out _ ((Below.refl _ _).alloc (Nat.le_refl _) _)) ?_
  rintro e w1 ⟨v, rfl, hG⟩
  have hb1 : Below w.heap.size w w1 := ((Below.refl w.heap.size w).alloc (Nat.le_refl _) _).trans (hG.choose_spec.2.2.mono (by simp))
  by_cases hg : lo ≠ [] ∧ wrong f = 0
  · obtain ⟨p1, p2, p3, p4⟩ := truthW_some (bits := wbit st lo) (st := st) hg.1 hg.2
    have p5 := holdsW_some (bits := wbit st lo) (st := st) hg.1 hg.2
    have hlo : 0 < lo.length := List.length_pos_iff.2 hg.1
    have hp2 : 0 < (truthW (wbit st lo) f st lo).length := by omega
    have hp3 : (truthW (wbit st lo) f st lo).length ≤ 100000 := by rw [p2]; omega
    obtain ⟨g, cap, rfl⟩ := hG.form hp2
    obtain ⟨Ar, cr, hc, hs⟩ := hG.cellAt p3
    have hlen : 0 < (val (wbit st lo) (st.length + lo.length) st.length (treeOf f)).length := by omega
    obtain ⟨br, or, rfl, _, hcr⟩ := hs.rd.at_ (bcells_at (i := 0) hlen)
    rw [← p5] at hcr
    rw [← p2] at hc
    generalize (val (wbit st lo) (st.length + lo.length) st.length (treeOf f)).length = N at *
    generalize holdsW (wbit st lo) f st lo = b at *
    generalize (truthW (wbit st lo) f st lo).length = m at *
    obtain ⟨m, rfl⟩ : ∃ k, m = k + 1 := ⟨m - 1, by omega⟩
    rw [Nat.add_sub_cancel] at hc
    rw [Nat.add_zero] at hcr
    clear p1 p2 p3 p4 p5 hG hg HT
    go_wp2
    go_ret
    exact ⟨rfl, hb1⟩
  · have p1 : truthW (wbit st lo) f st lo = [] := by rw [truthW, if_neg hg]
    have p2 : holdsW (wbit st lo) f st lo = false := by simp [holdsW, p1]
    rw [p1] at hG
    obtain ⟨vs, hv, _⟩ := hG
    obtain ⟨Ar, cr, rfl, hs⟩ := own_sl hv
    clear hv hs p1 HT hg
    have H2 := Lib.hid p2
    clear p2
    have h00 : decide ((0 : Int) < ((0 : Nat) : Int)) = false := by decide
    go_wp2
    go_ret
    exact ⟨ret_bool H2.out.symm, hb1⟩
end Go.Proofs.YtamhjgkigjpbhaaDoor
