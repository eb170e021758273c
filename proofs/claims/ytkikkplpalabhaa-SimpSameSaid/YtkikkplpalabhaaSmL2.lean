/- The law of layer 26 on words: SimpSame. -/
import Derived.Test.YtkikkplpalabhaaSmL1
import Derived.Test.YtkikkplpalabhaaR25h
namespace Go.Proofs.Ytkikkplpalabhaa
open Go.RowKit

theorem kept_holds {f g : List Nd} {st lo : List Int} (h : isN f = true) (k : Kept f g) (hlo : lo ≠ []) : holdsL g st lo = holdsL f st lo := by
  have hp : 0 < lo.length := List.length_pos_iff.2 hlo
  rw [holdsL_some (isN_good k.isn) hlo, holdsL_some (isN_good h) hlo, k.tree _ _ _ (by omega)]

set_option maxHeartbeats 8000000 in
set_option maxRecDepth 100000 in
theorem SimpSame_any (A A1 A2 : Option Addr) (n c n1 c1 n2 c2 : Nat) (f : List Nd) (st lo : List Int) (w : World) (hn : n = f.length) (hn1 : n1 = st.length) (hn2 : n2 = lo.length)
    (hf : Sl w w.heap.size 2 A n c (ncells f)) (h1 : Sl w w.heap.size 1 A1 n1 c1 (ucells st)) (h2 : Sl w w.heap.size 1 A2 n2 c2 (ucells lo)) (hl : n ≤ 8796093022208) (hl1 : n1 ≤ 17592186044416) (hl2 : n2 ≤ 17592186044416) :
    Calls Try.prog 4 #[.slice A n c, .agg #[.slice A1 n1 c1, .slice A2 n2 c2]] w (Tru w true) := by
  have hW : Below w.heap.size w (w.alloc (.cells #[.slice A1 n1 c1, .slice A2 n2 c2] 34)) := (Below.refl _ _).alloc (Nat.le_refl _) _
  have hbad : 40 < n ∨ (n ≤ 40 ∧ 12 < n1) ∨ (n ≤ 40 ∧ n1 ≤ 12 ∧ 12 < n2) ∨ (n ≤ 40 ∧ n1 ≤ 12 ∧ n2 = 0) ∨ (n ≤ 40 ∧ n1 ≤ 12 ∧ n2 ≤ 12 ∧ 0 < n2) := by omega
  have hI := fun (w' : World) (hb : Below w.heap.size w w') => fun (h : n ≤ 40) => IsR_any A c f w' w.heap.size (by rw [← hn]; exact hf.below hb (Nat.le_refl _)) hb.size (by omega)
  rw [← hn] at hI
  rcases hbad with h | ⟨h, h'⟩ | ⟨h, h', h''⟩ | ⟨h, h', rfl⟩ | ⟨h, h', h'', h0⟩
  · have d1 : (40 : Int) < (n : Int) := by omega
    clear hI hn hn1 hn2
    go_enter Try.func4, Try.ntmps4
    go_wp2_with fail
    refine (works_any _).mono ?_
    rintro e w1 ⟨rfl, hb1⟩
    go_wp2
    go_ret
    exact ⟨rfl, hW.trans (hb1.mono (by simp))⟩
  · have d1 : decide ((40 : Int) < (n : Int)) = false := by simp; omega
    have d2 : (12 : Int) < (n1 : Int) := by omega
    clear hI hn hn1 hn2
    go_enter Try.func4, Try.ntmps4
    go_wp2_with fail
    refine (works_any _).mono ?_
    rintro e w1 ⟨rfl, hb1⟩
    go_wp2
    go_ret
    exact ⟨rfl, hW.trans (hb1.mono (by simp))⟩
  · have d1 : decide ((40 : Int) < (n : Int)) = false := by simp; omega
    have d2 : decide ((12 : Int) < (n1 : Int)) = false := by simp; omega
    have d3 : (12 : Int) < (n2 : Int) := by omega
    clear hI hn hn1 hn2
    go_enter Try.func4, Try.ntmps4
    go_wp2_with fail
    refine (works_any _).mono ?_
    rintro e w1 ⟨rfl, hb1⟩
    go_wp2
    go_ret
    exact ⟨rfl, hW.trans (hb1.mono (by simp))⟩
  · have d1 : decide ((40 : Int) < (n : Int)) = false := by simp; omega
    have d2 : decide ((12 : Int) < (n1 : Int)) = false := by simp; omega
    clear hI hn hn1 hn2
    go_enter Try.func4, Try.ntmps4
    go_wp2_with fail
    refine (works_any _).mono ?_
    rintro e w1 ⟨rfl, hb1⟩
    go_wp2
    go_ret
    exact ⟨rfl, hW.trans (hb1.mono (by simp))⟩
  have d1 : decide ((40 : Int) < (n : Int)) = false := by simp; omega
  have d2 : decide ((12 : Int) < (n1 : Int)) = false := by simp; omega
  have d3 : decide ((12 : Int) < (n2 : Int)) = false := by simp; omega
  have d4 : ((n2 : Int) == 0) = false := beq_eq_false_iff_ne.2 (by omega)
  have hlo : lo ≠ [] := by intro e; rw [e] at hn2; simp at hn2; omega
  have hH := fun (w' : World) (hb : Below w.heap.size w w') => Holds_any A A1 A2 n c n1 c1 n2 c2 f st lo w' w.heap.size w.heap.size w.heap.size hn hn1 hn2 (hf.below hb (Nat.le_refl _)) (h1.below hb (Nat.le_refl _)) (h2.below hb (Nat.le_refl _)) hb.size hb.size hb.size (by omega) (by omega)
  have hO := fun (w' : World) (hb : Below w.heap.size w w') => of_any A c f w' w.heap.size (by rw [← hn]; exact hf.below hb (Nat.le_refl _)) hb.size (by omega)
  have hC := fun (w' : World) (hb : Below w.heap.size w w') => once_any A c f w' w.heap.size (by rw [← hn]; exact hf.below hb (Nat.le_refl _)) hb.size (by omega)
  rw [← hn] at hO hC
  have hx := heap_alloc_new w (.cells #[.slice A1 n1 c1, .slice A2 n2 c2] 34)
  have hx1 : (w.alloc (.cells #[.slice A1 n1 c1, .slice A2 n2 c2] 34)).cell? ⟨w.heap.size, 0, none⟩ = some (.slice A1 n1 c1) := by rw [cell_of_row _ _ _ _ _ (0, 0) hx]; rfl
  have hx2 : (w.alloc (.cells #[.slice A1 n1 c1, .slice A2 n2 c2] 34)).cell? ⟨w.heap.size, 1, none⟩ = some (.slice A2 n2 c2) := by rw [cell_of_row _ _ _ _ _ (0, 0) hx]; rfl
  cases hN : isN f
  · have hI' := hI _ hW h
    rw [hN] at hI'
    have HI := Lib.hid hI'
    clear hI hI' hO hC hH hn hn1 hn2 hx hx1 hx2 hN
    go_enter Try.func4, Try.ntmps4
    go_wp2_with fail
    refine Calls.mono HI.out ?_
    rintro e w1 ⟨rfl, hb1⟩
    have hb01 := hW.trans (hb1.mono (by simp))
    go_wp2_with fail
    refine (works_any _).mono ?_
    rintro e w2 ⟨rfl, hb2⟩
    go_wp2
    go_ret
    exact ⟨rfl, hb01.trans (hb2.mono hb01.size)⟩
  have hI' := hI _ hW h
  rw [hN] at hI'
  have HI := Lib.hid hI'
  have ka := once_kept hN
  have kl := ka.len
  rw [← hn] at kl
  have hha := kept_holds (st := st) hN ka hlo
  have hHo := fun (w' : World) (hb : Below w.heap.size w w') (A' : Option Addr) (c' : Nat) (hs : Sl w' w'.heap.size 2 A' (onceL f).length c' (ncells (onceL f))) => Holds_any A' A1 A2 (onceL f).length c' n1 c1 n2 c2 (onceL f) st lo w' w'.heap.size w.heap.size w.heap.size rfl hn1 hn2 hs (h1.below hb (Nat.le_refl _)) (h2.below hb (Nat.le_refl _)) (Nat.le_refl _) hb.size hb.size (by omega) (by omega)
  rw [hha] at hHo
  have hHg : ∀ (g : List Nd), IsOf f g → ∀ (w' : World) (_ : Below w.heap.size w w') (A' : Option Addr) (c' : Nat) (_ : Sl w' w'.heap.size 2 A' g.length c' (ncells g)), Calls Try.prog 22 #[.slice A' g.length c', .agg #[.slice A1 n1 c1, .slice A2 n2 c2]] w' (Tru w' (holdsL f st lo)) := by
    intro g hg w' hb A' c' hs
    have kg := of_kept hN hg
    have := kg.1.len
    rw [← kept_holds (st := st) hN kg.1 hlo]
    exact Holds_any A' A1 A2 g.length c' n1 c1 n2 c2 g st lo w' w'.heap.size w.heap.size w.heap.size rfl hn1 hn2 hs (h1.below hb (Nat.le_refl _)) (h2.below hb (Nat.le_refl _)) (Nat.le_refl _) hb.size hb.size (by omega) (by omega)
  have HHG := Lib.hid hHg
  have HHO := Lib.hid hHo
  have HH := Lib.hid hH
  have HO := Lib.hid hO
  have HC := Lib.hid hC
  clear hI hI' hO hC hH hHg hHo hha ka hn hn1 hn2 hx hN hf h1 h2
  generalize onceL f = a at *
  generalize holdsL f st lo = b at *
  have hbb : (b == b) = true := by simp
  go_enter Try.func4, Try.ntmps4
  go_wp2_with fail
  refine Calls.mono HI.out ?_
  rintro e w1 ⟨rfl, hb1⟩
  have hb01 := hW.trans (hb1.mono (by simp))
  have hy1 := (hb1.cell (p := ⟨w.heap.size, 0, none⟩) (by simp)).trans hx1
  have hy2 := (hb1.cell (p := ⟨w.heap.size, 1, none⟩) (by simp)).trans hx2
  have hz1 : w.heap.size < w1.heap.size := by have := hb1.size; simp at this; omega
  go_wp2_with fail
  refine Calls.mono (HH.out _ hb01) ?_
  rintro e w2 ⟨rfl, hb2⟩
  have hb02 := hb01.trans (hb2.mono hb01.size)
  have hc1 := (hb2.cell (p := ⟨w.heap.size, 0, none⟩) hz1).trans hy1
  have hc2 := (hb2.cell (p := ⟨w.heap.size, 1, none⟩) hz1).trans hy2
  have hz2 : w.heap.size < w2.heap.size := Nat.lt_of_lt_of_le hz1 hb2.size
  have hb02' : Below w.heap.size w w2.drew := hb02.drew
  clear hx1 hx2 hy1 hy2 hb1 hb2
  go_wp2_with fail
  go_region_held3 (fun w' => w'.cell? ⟨w.heap.size, 0, none⟩ = some (.slice A1 n1 c1) ∧ w'.cell? ⟨w.heap.size, 1, none⟩ = some (.slice A2 n2 c2))
    (go_keep)
    (first
      | (go_at_call 23; refine Calls.mono (HC.out _ hb02') ?_; rintro e w4 ⟨v4, rfl, hown4, hb4, _⟩; (obtain ⟨A4, c4, rfl, hs4⟩ := own_sl hown4); have hz4 : w2.heap.size ≤ w4.heap.size := hb4.size; have hb04 := hb02'.trans (hb4.mono (by simp; omega)); have hd1 := (hb4.cell (p := ⟨w.heap.size, 0, none⟩) hz2).trans hc1; have hd2 := (hb4.cell (p := ⟨w.heap.size, 1, none⟩) hz2).trans hc2)
      | (go_at_call_of 22 a.length; refine Calls.mono (HHO.out _ hb04 _ _ hs4) ?_; rintro e w5 ⟨rfl, hb5⟩; have hz5 := hb5.size; have hb05 := hb04.trans (hb5.mono hb04.size); have he1 := (hb5.cell (p := ⟨w.heap.size, 0, none⟩) (show w.heap.size < w4.heap.size by omega)).trans hd1; have he2 := (hb5.cell (p := ⟨w.heap.size, 1, none⟩) (show w.heap.size < w4.heap.size by omega)).trans hd2)
      | (go_at_call 24; refine Calls.mono (HO.out _ hb05) ?_; rintro e w6 ⟨g, A6, c6, hg, rfl, hs6, hb6⟩; have HG := Lib.hid hg; clear hg; have hz6 := hb6.size; have hb06 := hb05.trans (hb6.mono hb05.size); have hg1 := (hb6.cell (p := ⟨w.heap.size, 0, none⟩) (show w.heap.size < w5.heap.size by omega)).trans he1; have hg2 := (hb6.cell (p := ⟨w.heap.size, 1, none⟩) (show w.heap.size < w5.heap.size by omega)).trans he2)
      | (go_at_call 22; refine Calls.mono (HHG.out _ HG.out _ hb06 _ _ hs6) ?_; rintro e w7 ⟨rfl, hb7⟩; have hz7 := hb7.size; have hb07 := hb06.trans (hb7.mono hb06.size); have hi1 := (hb7.cell (p := ⟨w.heap.size, 0, none⟩) (show w.heap.size < w6.heap.size by omega)).trans hg1; have hi2 := (hb7.cell (p := ⟨w.heap.size, 1, none⟩) (show w.heap.size < w6.heap.size by omega)).trans hg2)
      | (go_at_call 21; refine (works_any _).mono ?_; rintro e w8 ⟨rfl, hb8⟩; have hb08 := hb07.trans (hb8.mono hb07.size); have hj1 := (hb8.cell (p := ⟨w.heap.size, 0, none⟩) (show w.heap.size < w7.heap.size by omega)).trans hi1; have hj2 := (hb8.cell (p := ⟨w.heap.size, 1, none⟩) (show w.heap.size < w7.heap.size by omega)).trans hi2))
  go_wp2
  go_ret
  exact ⟨rfl, hb08⟩
end Go.Proofs.Ytkikkplpalabhaa
