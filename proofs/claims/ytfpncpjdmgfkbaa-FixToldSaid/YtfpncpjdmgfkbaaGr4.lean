/- The walks of layer 6: Same, heavy. -/
import Derived.Test.YtfpncpjdmgfkbaaGr3
import Derived.Test.YtfpncpjdmgfkbaaMd
namespace Go.Proofs.Ytfpncpjdmgfkbaa
open Go.RowKit

theorem below_len {w w' : World} {n : Nat} (h : w' = w.drewN n) : Below w.heap.size w w' := by subst h; exact ⟨rfl, rfl, rfl, Nat.le_refl _, fun _ _ => rfl⟩

set_option maxHeartbeats 400000 in
theorem same1_any (A A' : Option Addr) (n c n' c' : Nat) (xs ys : List Nd) (w : World) (B : Nat) (hx : Sl w B 2 A n c (ncells xs)) (hy : Sl w B 2 A' n' c' (ncells ys)) (hn : n = xs.length) (hn' : n' = ys.length) (hl : n ≤ 100000000000) :
    Calls Try.prog 51 #[.slice A n c, .slice A' n' c'] w (Said w (decide (xs = ys))) := by
  have H := Lib.hid (equalEd_any A A' n c n' c' xs ys w B B hx hy hn hn' hl)
  clear hx hy hn hn' hl
  go_enter Try.func51, Try.ntmps51
  go_wp2_with fail
  refine Calls.mono H.out ?_
  rintro e w1 ⟨rfl, m, rfl⟩
  go_wp2
  go_ret
  exact ⟨rfl, _, rfl⟩

theorem take_eq_end {α : Type} {xs ys : List α} (h : xs.length = ys.length) {k : Nat} (hk : xs.length ≤ k) (ht : xs.take k = ys.take k) : xs = ys := by
  rwa [List.take_of_length_le hk, List.take_of_length_le (by omega)] at ht

set_option maxHeartbeats 1000000 in
theorem equalFunc_any (A1 A2 : Option Addr) (n1 c1 n2 c2 : Nat) (E1 E2 : List (List Nd)) (w : World) (B : Nat) (h1 : Sl2 w B 2 A1 n1 c1 (E1.map ncells)) (h2 : Sl2 w B 2 A2 n2 c2 (E2.map ncells)) (hB : B ≤ w.heap.size)
    (hl : n1 ≤ 100000000000000) (hr : ∀ l ∈ E1, l.length ≤ 100000000000) :
    Calls Try.prog 50 #[.slice A1 n1 c1, .slice A2 n2 c2, .func (.func 51) #[] #[]] w (Tru w (decide (E1 = E2))) := by
  have L1 := h1.len
  have L2 := h2.len
  rw [List.length_map] at L1 L2
  have HL1 := Lib.hid L1
  have HL2 := Lib.hid L2
  clear L1 L2
  by_cases hne : n1 = n2
  · subst hne
    have hd : ((n1 : Int) != (n1 : Int)) = false := by simp
    go_enter Try.func50, Try.ntmps50
    go_wp2
    go_loopw [17] (fun i wr => ∃ k : Nat, k ≤ n1 ∧ i = .int .i64 k ∧ Below w.heap.size w wr ∧ Hid (E1.take k = E2.take k)) (fun i _ => n1 - (intOf i).toNat)
    case atStart => exact ⟨0, by omega, rfl, Below.refl _ _, rfl⟩
    case round =>
      obtain ⟨k, hk, rfl, hbr, HT⟩ := hrel
      have hz := hbr.size
      by_cases hlt : k < n1
      · have hk1 : k < E1.length := by rw [← HL1.out]; exact hlt
        have hk2 : k < E2.length := by rw [← HL2.out]; exact hlt
        obtain ⟨b, o, A', n', c', rfl, _, hc, hs⟩ := (h1.below hbr hB).at_ (ed_take hk1)
        obtain ⟨b', o', A'', n'', c'', rfl, _, hc', hs'⟩ := (h2.below hbr hB).at_ (ed_take hk2)
        have hsn := fun h => take_eq_snoc HT.out hk1 hk2 h
        have hlen := hr E1[k] (List.getElem_mem hk1)
        have hnx : n' = E1[k].length := by have := hs.len; rw [ncells_len] at this; omega
        have hnx' : n'' = E2[k].length := by have := hs'.len; rw [ncells_len] at this; omega
        generalize hX : E1[k] = x at *
        generalize hY : E2[k] = y at *
        have hC := same1_any A' A'' n' c' n'' c'' x y wr B hs hs' hnx hnx' (by omega)
        have HC := Lib.hid hC
        have HX := Lib.hid hX
        have HY := Lib.hid hY
        have HS := Lib.hid hsn
        clear hX hY hsn hC hnx hnx'
        cases hb : decide (x = y)
        all_goals
          have HB := Lib.hid hb
          clear hb
          go_wp2_with fail
          refine Calls.mono HC.out ?_
          rw [HB.out]
          rintro e w2 ⟨rfl, m, hw2⟩
          have hb2 := below_len hw2
          clear hw2
          go_wp2
        · go_ret
          refine ⟨ret_bool ?_, hbr.trans (hb2.mono hz)⟩
          symm; rw [decide_eq_false_iff_not]
          rintro rfl
          exact (of_decide_eq_false HB.out) (HX.out.symm.trans HY.out)
        · go_roundw
          case rel => exact ⟨k + 1, by omega, by go_num, hbr.trans (hb2.mono hz), HS.out (of_decide_eq_true HB.out)⟩
          case measure => simp [intOf]; omega
      · have hkn : k = n1 := by omega
        have he := take_eq_end (by rw [← HL1.out, ← HL2.out]) (by rw [← HL1.out, hkn]; exact Nat.le_refl _) HT.out
        have HE := Lib.hid he
        have HKN := Lib.hid hkn
        clear he hkn
        go_wp2
        go_ret
        exact ⟨ret_bool (by rw [decide_eq_true HE.out]), hbr⟩
  · have hd : ((n1 : Int) != (n2 : Int)) = true := by simp; omega
    have HD := Lib.hid hne
    clear hne
    go_enter Try.func50, Try.ntmps50
    go_wp2
    go_ret
    refine ⟨ret_bool ?_, Below.refl _ _⟩
    symm; rw [decide_eq_false_iff_not]
    intro h
    exact HD.out (by rw [HL1.out, HL2.out, h])

/-- Are two graphs the same? -/
def sameG (G H : Gph) : Bool := decide (G.init = H.init) && decide (G.labels = H.labels) && decide (G.edges = H.edges)
/-- Has a graph more than a statement takes? -/
def heavyG (G : Gph) : Bool := decide (200 < G.edges.length) || decide (200 < G.init.length) || decide (400 < G.labels.length) || G.edges.any (fun l => decide (50 < l.length))

section
variable (ai ae al : Option Addr) (ni ci ne ce nl cl : Nat) (bi be bl : Option Addr) (mi di me de ml dl : Nat)

set_option maxHeartbeats 2000000 in
set_option maxRecDepth 100000 in
theorem sameP_any (G H : Gph) (w : World) (B : Nat) (h : GrRd w B ai ni ci ae ne ce al nl cl G) (k : GrRd w B bi mi di be me de bl ml dl H) (hB : B ≤ w.heap.size) (hi : ni ≤ 100000000000) (he : ne ≤ 100000000000) (hl : nl ≤ 100000000000) (hr : ∀ l ∈ G.edges, l.length ≤ 100000000000) :
    Calls Try.prog 19 #[.agg #[.slice ai ni ci, .slice ae ne ce, .slice al nl cl], .agg #[.slice bi mi di, .slice be me de, .slice bl ml dl]] w (Tru w (sameG G H)) := by
  obtain ⟨L1, L2, L3⟩ := h.lens
  obtain ⟨M1, M2, M3⟩ := k.lens
  obtain ⟨w0, hw0, hb0, hz0, hx0, hx1, hx2⟩ := boxed3 w (.slice ai ni ci) (.slice ae ne ce) (.slice al nl cl) 26
  obtain ⟨w1, hw1, hb1, hz1, hy0, hy1, hy2⟩ := boxed3 w0 (.slice bi mi di) (.slice be me de) (.slice bl ml dl) 26
  have hbA := hb0.trans (hb1.mono (by omega))
  have h' := h.below hbA hB
  have k' := k.below hbA hB
  have E1 := fun (w' : World) (hb : Below w1.heap.size w1 w') => equalI_any ai bi ni ci mi di G.init H.init w' B B (h'.hi.below hb (by omega)) (k'.hi.below hb (by omega)) L1 M1 (by omega)
  have E2 := fun (w' : World) (hb : Below w1.heap.size w1 w') => equalU_any al bl nl cl ml dl G.labels H.labels w' B B (h'.hl.below hb (by omega)) (k'.hl.below hb (by omega)) L3 M3 (by omega)
  have E3 := fun (w' : World) (hb : Below w1.heap.size w1 w') => equalFunc_any ae be ne ce me de G.edges H.edges w' B (h'.he.below hb (by omega)) (k'.he.below hb (by omega)) (by have := hb.size; omega) (by omega) hr
  have hx0 := (hb1.cell (p := ⟨w.heap.size, 0, none⟩) (show w.heap.size < w0.heap.size by omega)).trans hx0
  have hx1 := (hb1.cell (p := ⟨w.heap.size, 1, none⟩) (show w.heap.size < w0.heap.size by omega)).trans hx1
  have hx2 := (hb1.cell (p := ⟨w.heap.size, 2, none⟩) (show w.heap.size < w0.heap.size by omega)).trans hx2
  rw [hz0] at hy0 hy1 hy2
  have HW0 := Lib.hid hw0
  have HW1 := Lib.hid hw1
  have HE1 := Lib.hid E1
  have HE2 := Lib.hid E2
  have HE3 := Lib.hid E3
  have hs : sameG G H = (decide (G.init = H.init) && decide (G.labels = H.labels) && decide (G.edges = H.edges)) := rfl
  have HS := Lib.hid hs
  have hw : (w.alloc (.cells #[.slice ai ni ci, .slice ae ne ce, .slice al nl cl] 26)).alloc (.cells #[.slice bi mi di, .slice be me de, .slice bl ml dl] 26) = w1 := by rw [← HW0.out, ← HW1.out]
  have HWW := Lib.hid hw
  clear hw0 hw1 E1 E2 E3 L1 L2 L3 M1 M2 M3 hs h' k' hw
  have step : ∀ (a : Nat) (w2 : World), w2 = w1.drewN a → Below w1.heap.size w1 w2 := fun a w2 h => below_len h
  cases d1 : decide (G.init = H.init)
  · have D1 := Lib.hid d1
    clear d1
    go_enter Try.func19, Try.ntmps19
    go_wp2_with fail
    rw [HWW.out]
    refine Calls.mono (HE1.out _ (Below.refl _ _)) ?_
    rw [D1.out]
    rintro e w2 ⟨rfl, m, hw2⟩
    have hb2 := below_len hw2
    clear hw2
    go_wp2
    go_ret
    exact ⟨ret_bool (by rw [HS.out, D1.out]; rfl), hbA.trans (hb2.mono (by omega))⟩
  · have D1 := Lib.hid d1
    clear d1
    cases d2 : decide (G.labels = H.labels)
    · have D2 := Lib.hid d2
      clear d2
      go_enter Try.func19, Try.ntmps19
      go_wp2_with fail
      rw [HWW.out]
      refine Calls.mono (HE1.out _ (Below.refl _ _)) ?_
      rw [D1.out]
      rintro e w2 ⟨rfl, m, hw2⟩
      have hb2 := below_len hw2
      have hz2 := hb2.size
      have a2 := (hb2.cell (p := ⟨w.heap.size, 2, none⟩) (show w.heap.size < w1.heap.size by omega)).trans hx2
      have b2 := (hb2.cell (p := ⟨w.heap.size + 1, 2, none⟩) (show w.heap.size + 1 < w1.heap.size by omega)).trans hy2
      clear hw2
      go_wp2_with fail
      refine Calls.mono (HE2.out _ hb2) ?_
      rw [D2.out]
      rintro e w3 ⟨rfl, m3, hw3⟩
      have hb3 := below_len hw3
      clear hw3
      go_wp2
      go_ret
      exact ⟨ret_bool (by rw [HS.out, D1.out, D2.out]; rfl), (hbA.trans (hb2.mono (by omega))).trans (hb3.mono (by omega))⟩
    · have D2 := Lib.hid d2
      clear d2
      go_enter Try.func19, Try.ntmps19
      go_wp2_with fail
      rw [HWW.out]
      refine Calls.mono (HE1.out _ (Below.refl _ _)) ?_
      rw [D1.out]
      rintro e w2 ⟨rfl, m, hw2⟩
      have hb2 := below_len hw2
      have hz2 := hb2.size
      have a2 := (hb2.cell (p := ⟨w.heap.size, 2, none⟩) (show w.heap.size < w1.heap.size by omega)).trans hx2
      have b2 := (hb2.cell (p := ⟨w.heap.size + 1, 2, none⟩) (show w.heap.size + 1 < w1.heap.size by omega)).trans hy2
      clear hw2
      go_wp2_with fail
      refine Calls.mono (HE2.out _ hb2) ?_
      rw [D2.out]
      rintro e w3 ⟨rfl, m3, hw3⟩
      have hb3 := hb2.trans ((below_len hw3).mono hz2)
      have hz3 := hb3.size
      have a3 := (hb3.cell (p := ⟨w.heap.size, 1, none⟩) (show w.heap.size < w1.heap.size by omega)).trans hx1
      have b3 := (hb3.cell (p := ⟨w.heap.size + 1, 1, none⟩) (show w.heap.size + 1 < w1.heap.size by omega)).trans hy1
      clear hw3
      go_wp2_with fail
      refine Calls.mono (HE3.out _ hb3) ?_
      rintro e w4 ⟨rfl, hb4⟩
      go_wp2
      go_ret
      exact ⟨ret_bool (by rw [HS.out, D1.out, D2.out]; simp), hbA.trans ((hb3.trans (hb4.mono (by omega))).mono (by omega))⟩

set_option maxHeartbeats 2000000 in
theorem heavy_any (G : Gph) (w : World) (B : Nat) (h : GrRd w B ai ni ci ae ne ce al nl cl G) (hB : B ≤ w.heap.size) :
    Calls Try.prog 15 #[.agg #[.slice ai ni ci, .slice ae ne ce, .slice al nl cl]] w (Tru w (heavyG G)) := by
  obtain ⟨L1, L2, L3⟩ := h.lens
  obtain ⟨w0, hw0, hb0, hz0, hx0, hx1, hx2⟩ := boxed3 w (.slice ai ni ci) (.slice ae ne ce) (.slice al nl cl) 26
  have HW0 := Lib.hid hw0
  have h' := h.below hb0 hB
  have hmx := h'.he.max
  have hcp := h'.he.cap
  unfold maxLen at hmx
  have hne : ne ≤ 9223372036854775807 := by omega
  have hs : heavyG G = (decide (200 < ne) || decide (200 < ni) || decide (400 < nl) || G.edges.any (fun l => decide (50 < l.length))) := by rw [L1, L2, L3]; rfl
  have HS := Lib.hid hs
  have H2 := Lib.hid L2
  clear hw0 L1 L2 L3 hs
  by_cases c1 : 200 < ne
  · have d1 : (200 : Int) < (ne : Int) := by omega
    have C1 := Lib.hid c1
    clear c1
    go_enter Try.func15, Try.ntmps15
    go_wp2
    rw [← HW0.out]
    go_ret
    exact ⟨ret_bool (by rw [HS.out, decide_eq_true C1.out]; rfl), hb0⟩
  have d1 : decide ((200 : Int) < (ne : Int)) = false := by simp; omega
  by_cases c2 : 200 < ni
  · have d2 : (200 : Int) < (ni : Int) := by omega
    have C2 := Lib.hid c2
    clear c2 c1
    go_enter Try.func15, Try.ntmps15
    go_wp2
    rw [← HW0.out]
    go_ret
    exact ⟨ret_bool (by rw [HS.out, decide_eq_true C2.out]; simp), hb0⟩
  have d2 : decide ((200 : Int) < (ni : Int)) = false := by simp; omega
  by_cases c3 : 400 < nl
  · have d3 : (400 : Int) < (nl : Int) := by omega
    have C3 := Lib.hid c3
    clear c3 c2 c1
    go_enter Try.func15, Try.ntmps15
    go_wp2
    rw [← HW0.out]
    go_ret
    exact ⟨ret_bool (by rw [HS.out, decide_eq_true C3.out]; simp), hb0⟩
  have d3 : decide ((400 : Int) < (nl : Int)) = false := by simp; omega
  have hs2 : heavyG G = G.edges.any (fun l => decide (50 < l.length)) := by rw [HS.out, decide_eq_false c1, decide_eq_false c2, decide_eq_false c3]; simp
  have HS2 := Lib.hid hs2
  clear hs2 c1 c2 c3
  go_enter Try.func15, Try.ntmps15
  go_wp2
  rw [← HW0.out]
  clear HW0
  go_loop [3] (fun i => ∃ k : Nat, k ≤ ne ∧ i = .int .i64 k ∧ Hid ((G.edges.take k).any (fun l => decide (50 < l.length)) = false)) (fun i => ne - (intOf i).toNat)
  case atStart => exact ⟨0, by omega, rfl, rfl⟩
  case round =>
    obtain ⟨k, hk, rfl, HA⟩ := hrel
    by_cases hlt : k < ne
    · have hkl : k < G.edges.length := by rw [← H2.out]; exact hlt
      obtain ⟨b, o, A', n', c', rfl, hbb, hc0, hrow⟩ := h'.he.at_ (ed_take hkl)
      have hnx : n' = G.edges[k].length := by have := hrow.len; rw [ncells_len] at this; omega
      have hsn : (G.edges.take (k + 1)).any (fun l => decide (50 < l.length)) = decide (50 < n') := by rw [take_snoc _ k hkl, List.any_append, HA.out, hnx]; simp
      have hyes : 50 < n' → G.edges.any (fun l => decide (50 < l.length)) = true := fun h => List.any_eq_true.2 ⟨G.edges[k], List.getElem_mem hkl, by rw [← hnx]; simpa using h⟩
      have HSN := Lib.hid hsn
      have HY := Lib.hid hyes
      clear hsn hyes hnx hrow
      by_cases h50 : 50 < n'
      · have h50' : (50 : Int) < (n' : Int) := by omega
        have H50 := Lib.hid h50
        clear h50
        go_wp2
        go_ret
        exact ⟨ret_bool (by rw [HS2.out, HY.out H50.out]), hb0⟩
      · have h50' : decide ((50 : Int) < (n' : Int)) = false := by simp; omega
        have H50 := Lib.hid h50
        clear h50
        go_wp2
        go_round
        case rel => exact ⟨k + 1, by omega, by go_num, by show _ = _; rw [HSN.out, decide_eq_false H50.out]⟩
        case measure => simp [intOf]; omega
    · have hkl : k = ne := by omega
      have hall : G.edges.any (fun l => decide (50 < l.length)) = false := by
        have := HA.out
        rw [List.take_of_length_le (by rw [hkl]; exact Nat.le_of_eq H2.out.symm)] at this
        exact this
      have HALL := Lib.hid hall
      clear hall hkl
      go_wp2
      go_ret
      exact ⟨ret_bool (by rw [HS2.out, HALL.out]), hb0⟩
end
end Go.Proofs.Ytfpncpjdmgfkbaa
