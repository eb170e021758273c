/- The walks of layer 6: Check, and its reference's. -/
import Derived.Test.YtfpncpjdmgfkbaaGr1
import Derived.Deep.RegionHeld3
namespace Go.Proofs.Ytfpncpjdmgfkbaa
open Go.RowKit

/-- What is wrong with a graph: 11 too many, 3 of another length, 10 out of range. -/
def checkG (G : Gph) : Int :=
  if 65536 < G.edges.length then 11 else if G.labels.length ≠ G.edges.length then 3
  else if G.init.all (isNd G.edges.length) && G.edges.all (fun l => l.all (fun e => isNd G.edges.length e.op)) then 0 else 10

theorem all_take {α : Type} {l : List α} {p : α → Bool} {k : Nat} (hk : k < l.length) (h : (l.take k).all p = true) : (l.take (k + 1)).all p = p l[k] := by
  rw [take_snoc l k hk, List.all_append, h]; simp
theorem all_not {α : Type} {l : List α} {p : α → Bool} {k : Nat} (hk : k < l.length) (h : p l[k] = false) : l.all p = false := by
  rw [List.all_eq_false]
  exact ⟨l[k], List.getElem_mem hk, by simp [h]⟩

section
variable (ai ae al : Option Addr) (ni ci ne ce nl cl : Nat)

set_option maxHeartbeats 400000 in
theorem check1_any (e : Nd) (b : Nat) (w : World) (h0 : w.cell? ⟨b, 0, none⟩ = some (.slice ai ni ci)) (h1 : w.cell? ⟨b, 1, none⟩ = some (.slice ae ne ce)) (h2 : w.cell? ⟨b, 2, none⟩ = some (.slice al nl cl)) :
    Calls Try.prog 47 #[.agg #[.int .i64 e.op, .int .i64 e.n], .pointer (some ⟨b, 0, none⟩)] w (Tru w (!isNd ne e.op)) := by
  have hb := (Below.refl w.heap.size w).alloc (Nat.le_refl _) (.cells #[.int .i64 e.op, .int .i64 e.n] 42)
  have hb0 := World.block_lt_of_cell? w _ h0
  go_enter Try.func47, Try.ntmps47
  go_wp2_with fail
  refine (node_any ai ae al ni ci ne ce nl cl e.op _).mono ?_
  rintro e' w1 ⟨rfl, hb1⟩
  go_wp2
  go_ret
  exact ⟨rfl, hb.trans (hb1.mono (by simp))⟩

set_option maxHeartbeats 1000000 in
theorem indexEd_any (A : Option Addr) (n c : Nat) (l : List Nd) (b : Nat) (w : World) (B : Nat) (hn : n = l.length) (hs : Sl w B 2 A n c (ncells l)) (hB : B ≤ w.heap.size) (hl : n ≤ 100000000000)
    (h0 : w.cell? ⟨b, 0, none⟩ = some (.slice ai ni ci)) (h1 : w.cell? ⟨b, 1, none⟩ = some (.slice ae ne ce)) (h2 : w.cell? ⟨b, 2, none⟩ = some (.slice al nl cl)) :
    Calls Try.prog 79 #[.slice A n c, .func (.func 47) #[] #[.pointer (some ⟨b, 0, none⟩)]] w (Fnd w (!l.all (fun e => isNd ne e.op))) := by
  subst hn
  have hb0 := World.block_lt_of_cell? w _ h0
  go_enter Try.func79, Try.ntmps79
  go_wp2
  go_loopw [8] (fun i wr => ∃ k : Nat, k ≤ l.length ∧ i = .int .i64 k ∧ Below w.heap.size w wr ∧ Hid ((l.take k).all (fun e => isNd ne e.op) = true)) (fun i _ => l.length - (intOf i).toNat)
  case atStart => exact ⟨0, by omega, rfl, Below.refl _ _, rfl⟩
  case round =>
    obtain ⟨k, hk, rfl, hbr, HA⟩ := hrel
    have hsw := hbr.size
    by_cases hlt : k < l.length
    · obtain ⟨bb, o, rfl, _, hc0, hc1⟩ := rd_nd (hs.rd.below hbr hB) hlt
      have hsn := all_take hlt HA.out
      have hno := fun h => all_not (p := fun e => isNd ne e.op) hlt h
      have g0 := (hbr.cell (p := ⟨b, 0, none⟩) hb0).trans h0
      have g1 := (hbr.cell (p := ⟨b, 1, none⟩) hb0).trans h1
      have g2 := (hbr.cell (p := ⟨b, 2, none⟩) hb0).trans h2
      generalize hx : l[k] = x at *
      have hC := check1_any ai ae al ni ci ne ce nl cl x b wr g0 g1 g2
      have HC := Lib.hid hC
      have HS := Lib.hid hsn
      have HN := Lib.hid hno
      have Hx := Lib.hid hx
      clear hx hC hsn hno g0 g1 g2 h0 h1 h2
      cases hb : isNd ne x.op
      · have HB := Lib.hid hb
        clear hb
        go_wp2_with fail
        refine Calls.mono HC.out ?_
        rw [HB.out]
        rintro e w2 ⟨rfl, hb2⟩
        go_wp2
        go_ret
        exact ⟨_, rfl, by omega, by omega, hbr.trans (hb2.mono hsw), by rw [HN.out HB.out]; simp⟩
      · have HB := Lib.hid hb
        clear hb
        go_wp2_with fail
        refine Calls.mono HC.out ?_
        rw [HB.out]
        rintro e w2 ⟨rfl, hb2⟩
        go_wp2
        go_roundw
        case rel => exact ⟨k + 1, by omega, by go_num, hbr.trans (hb2.mono hsw), by show _ = _; rw [HS.out]; exact HB.out⟩
        case measure => simp [intOf]; omega
    · have hkl : k = l.length := by omega
      subst hkl
      rw [List.take_of_length_le (Nat.le_refl _)] at HA
      go_wp2
      go_ret
      exact ⟨_, rfl, by omega, by omega, hbr, by rw [HA.out]; rfl⟩
set_option maxHeartbeats 400000 in
theorem containsEd_any (A : Option Addr) (n c : Nat) (l : List Nd) (b : Nat) (w : World) (B : Nat) (hn : n = l.length) (hs : Sl w B 2 A n c (ncells l)) (hB : B ≤ w.heap.size) (hl : n ≤ 100000000000)
    (h0 : w.cell? ⟨b, 0, none⟩ = some (.slice ai ni ci)) (h1 : w.cell? ⟨b, 1, none⟩ = some (.slice ae ne ce)) (h2 : w.cell? ⟨b, 2, none⟩ = some (.slice al nl cl)) :
    Calls Try.prog 46 #[.slice A n c, .func (.func 47) #[] #[.pointer (some ⟨b, 0, none⟩)]] w (Tru w (!l.all (fun e => isNd ne e.op))) := by
  go_enter Try.func46, Try.ntmps46
  have hI := Lib.hid (indexEd_any ai ae al ni ci ne ce nl cl A n c l b w B hn hs hB hl h0 h1 h2)
  clear hn hs hl h0 h1 h2
  go_wp2_with fail
  refine Calls.mono hI.out ?_
  rintro e w1 ⟨k, rfl, _, _, hb, hk⟩
  go_wp2
  go_ret
  exact ⟨rfl, hb⟩

theorem ed_take {E : List (List Nd)} {k : Nat} (hk : k < E.length) : (E.map ncells)[k]? = some (ncells E[k]) := by simp [hk]

set_option maxHeartbeats 2000000 in
set_option maxRecDepth 100000 in
theorem checkP_any (G : Gph) (w : World) (B : Nat) (h : GrRd w B ai ni ci ae ne ce al nl cl G) (hB : B ≤ w.heap.size) (hi : ni ≤ 100000000000000) (he : ne ≤ 100000000000000) (hl : nl ≤ 100000000000000) (hr : ∀ l ∈ G.edges, l.length ≤ 100000000000) :
    Calls Try.prog 17 #[.agg #[.slice ai ni ci, .slice ae ne ce, .slice al nl cl]] w (Num w (checkG G)) := by
  obtain ⟨L1, L2, L3⟩ := h.lens
  obtain ⟨w0, hw0, hb0, hz0, hx0, hx1, hx2⟩ := boxed3 w (.slice ai ni ci) (.slice ae ne ce) (.slice al nl cl) 26
  have HW0 := Lib.hid hw0
  have H1 := Lib.hid L1
  have H2 := Lib.hid L2
  have H3 := Lib.hid L3
  clear hw0 L1 L2 L3
  have h' := h.below hb0 hB
  by_cases c1 : 65536 < ne
  · have hc : checkG G = 11 := by rw [checkG, if_pos (by rw [← H2.out]; exact c1)]
    have HC := Lib.hid hc
    have d1 : (65536 : Int) < (ne : Int) := by omega
    clear hc
    go_enter Try.func17, Try.ntmps17
    go_wp2
    rw [← HW0.out]
    go_ret
    exact ⟨ret_int HC.out.symm, hb0⟩
  by_cases c2 : nl = ne
  · have d1 : decide ((65536 : Int) < (ne : Int)) = false := by simp; omega
    subst c2
    have d2 : ((nl : Int) != (nl : Int)) = false := by simp
    have hc : checkG G = if G.init.all (isNd nl) && G.edges.all (fun l => l.all (fun e => isNd nl e.op)) then 0 else 10 := by
      rw [checkG, if_neg (by rw [← H2.out]; exact c1), if_neg (by rw [← H2.out, ← H3.out]; simp), ← H2.out]
    have HC := Lib.hid hc
    clear hc c1
    go_enter Try.func17, Try.ntmps17
    go_wp2
    rw [← HW0.out]
    clear HW0
    go_loopw [21] (fun i wr => ∃ k : Nat, k ≤ ni ∧ i = .int .i64 k ∧ Below w0.heap.size w0 wr ∧ Hid ((G.init.take k).all (isNd nl) = true)) (fun i _ => ni - (intOf i).toNat)
    case atStart => exact ⟨0, by omega, rfl, Below.refl _ _, rfl⟩
    case round =>
      obtain ⟨k, hk, rfl, hbr, HA⟩ := hrel
      have hz := hbr.size
      have g0 := (hbr.cell (p := ⟨w.heap.size, 0, none⟩) (show w.heap.size < w0.heap.size by omega)).trans hx0
      have g1 := (hbr.cell (p := ⟨w.heap.size, 1, none⟩) (show w.heap.size < w0.heap.size by omega)).trans hx1
      have g2 := (hbr.cell (p := ⟨w.heap.size, 2, none⟩) (show w.heap.size < w0.heap.size by omega)).trans hx2
      by_cases hlt : k < ni
      · have hkl : k < G.init.length := by rw [← H1.out]; exact hlt
        obtain ⟨b, o, rfl, _, hc0⟩ := rd_int (h'.hi.rd.below hbr (by omega)) hkl
        have hsn := all_take hkl HA.out
        have hno := fun h => all_not (p := isNd nl) hkl h
        generalize hx : G.init[k] = x at *
        have HS := Lib.hid hsn
        have HN := Lib.hid hno
        have Hx := Lib.hid hx
        clear hx hsn hno hx0 hx1 hx2
        cases hb : isNd nl x
        all_goals
          have HB := Lib.hid hb
          clear hb
          go_wp2_with fail
          refine (node_any _ ae al ni ci nl ce nl cl x _).mono ?_
          rw [HB.out]
          rintro e w2 ⟨rfl, hb2⟩
          go_wp2
        · go_ret
          exact ⟨ret_int (by rw [HC.out, HN.out HB.out]; rfl), hb0.trans ((hbr.trans (hb2.mono hz)).mono (by omega))⟩
        · go_roundw
          case rel => exact ⟨k + 1, by omega, by go_num, hbr.trans (hb2.mono hz), by show _ = _; rw [HS.out]; exact HB.out⟩
          case measure => simp [intOf]; omega
      · have hkl : k = ni := by omega
        have HI : Hid (G.init.all (isNd nl) = true) := by
          show _ = _
          have := HA.out
          rwa [hkl, H1.out, List.take_of_length_le (Nat.le_refl _)] at this
        have HKL := Lib.hid hkl
        clear hkl HA hx0 hx1 hx2
        obtain ⟨wo, rfl⟩ : ∃ wo : World, wo = wr := ⟨_, rfl⟩
        have ho := h'.he.below hbr (by omega)
        go_wp2
        go_loopw [33] (fun i wr => ∃ k : Nat, k ≤ nl ∧ i = .int .i64 k ∧ Below wo.heap.size wo wr ∧ Hid ((G.edges.take k).all (fun l => l.all (fun e => isNd nl e.op)) = true)) (fun i _ => nl - (intOf i).toNat)
        case atStart => exact ⟨0, by omega, rfl, Below.refl _ _, rfl⟩
        case round =>
          obtain ⟨k, hk, rfl, hbr2, HA⟩ := hrel
          have hz2 := hbr2.size
          have e0 := (hbr2.cell (p := ⟨w.heap.size, 0, none⟩) (show w.heap.size < wo.heap.size by omega)).trans g0
          have e1 := (hbr2.cell (p := ⟨w.heap.size, 1, none⟩) (show w.heap.size < wo.heap.size by omega)).trans g1
          have e2 := (hbr2.cell (p := ⟨w.heap.size, 2, none⟩) (show w.heap.size < wo.heap.size by omega)).trans g2
          have hbA : Below w.heap.size w wr := (hb0.trans (hbr.mono (by omega))).trans (hbr2.mono (by omega))
          by_cases hlt : k < nl
          · have hkl : k < G.edges.length := by rw [← H2.out]; exact hlt
            obtain ⟨b, o, A', n', c', rfl, hbb, hc0, hrow⟩ := (ho.below hbr2 (by omega)).at_ (ed_take hkl)
            have hsn := all_take hkl HA.out
            have hno := fun h => all_not (p := fun l : List Nd => l.all (fun e => isNd nl e.op)) hkl h
            have hlen := hr G.edges[k] (List.getElem_mem hkl)
            generalize hx : G.edges[k] = x at *
            have hnx : n' = x.length := by have := hrow.len; rw [ncells_len] at this; omega
            have hC := containsEd_any ai _ al ni ci nl ce nl cl A' n' c' x w.heap.size wr B hnx hrow (by omega) (by omega) e0 e1 e2
            have HC2 := Lib.hid hC
            have HS := Lib.hid hsn
            have HN := Lib.hid hno
            have Hx := Lib.hid hx
            clear hx hsn hno hC hnx g0 g1 g2
            cases hb : x.all (fun e => isNd nl e.op)
            all_goals
              have HB := Lib.hid hb
              clear hb
              go_wp2_with fail
              refine Calls.mono HC2.out ?_
              rw [HB.out]
              rintro e w2 ⟨rfl, hb2⟩
              go_wp2
            · go_ret
              exact ⟨ret_int (by rw [HC.out, HI.out, HN.out HB.out]; rfl), hbA.trans (hb2.mono (by omega))⟩
            · go_roundw
              case rel => exact ⟨k + 1, by omega, by go_num, hbr2.trans (hb2.mono hz2), by show _ = _; rw [HS.out]; exact HB.out⟩
              case measure => simp [intOf]; omega
          · have hkl : k = nl := by omega
            have HJ : Hid (G.edges.all (fun l => l.all (fun e => isNd nl e.op)) = true) := by
              show _ = _
              have := HA.out
              rw [List.take_of_length_le (by rw [hkl]; exact Nat.le_of_eq H2.out.symm)] at this
              exact this
            go_wp2
            go_ret
            exact ⟨ret_int (by rw [HC.out, HI.out, HJ.out]; rfl), hbA⟩
  · have d1 : decide ((65536 : Int) < (ne : Int)) = false := by simp; omega
    have d2 : ((nl : Int) != (ne : Int)) = true := by simp; omega
    have hc : checkG G = 3 := by rw [checkG, if_neg (by rw [← H2.out]; exact c1), if_pos (by rw [← H2.out, ← H3.out]; exact c2)]
    have HC := Lib.hid hc
    clear hc c1
    go_enter Try.func17, Try.ntmps17
    go_wp2
    rw [← HW0.out]
    go_ret
    exact ⟨ret_int HC.out.symm, hb0⟩
end
end Go.Proofs.Ytfpncpjdmgfkbaa
