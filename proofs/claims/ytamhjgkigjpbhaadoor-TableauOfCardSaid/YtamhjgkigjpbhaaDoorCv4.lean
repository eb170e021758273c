/- The walks of layer 28 (cover): good; Contains. -/
import Derived.Test.YtamhjgkigjpbhaaDoorCv3
import Derived.Test.YtamhjgkigjpbhaaDoorNnf3
namespace Go.Proofs.YtamhjgkigjpbhaaDoor
open Go.RowKit

def partB (m : Nat) (z : Int) : Bool := decide (0 ≤ z) && decide (z < (m : Int))
def goodB (f : List Nd) (ps : List Int) : Bool := isN f && decide (f.length ≤ 50) && ps.all (partB f.length)
theorem all_take' {α : Type} {l : List α} {p : α → Bool} {k : Nat} (hk : k < l.length) (h : (l.take k).all p = true) : (l.take (k + 1)).all p = p l[k] := by
  rw [take_snoc l k hk, List.all_append, h]; simp
theorem all_not' {α : Type} {l : List α} {p : α → Bool} {k : Nat} (hk : k < l.length) (h : p l[k] = false) : l.all p = false := by
  rw [List.all_eq_false]
  exact ⟨l[k], List.getElem_mem hk, by simp [h]⟩
theorem icells_at' {l : List Int} {k : Nat} (hk : k < l.length) : (icells l)[k]? = some (.int .i64 l[k]) := by simp [icells, hk]

set_option maxHeartbeats 400000 in
theorem good1_any (Af : Option Addr) (m cf : Nat) (z : Int) (b : Nat) (w : World) (h0 : w.cell? ⟨b, 0, none⟩ = some (.slice Af m cf)) :
    Calls Tryd.prog 74 #[.int .i64 z, .pointer (some ⟨b, 0, none⟩)] w (Tru w (!partB m z)) := by
  by_cases hz : z < 0
  · have e : partB m z = false := by simp [partB]; omega
    have d : decide (z < 0) = true := by simpa using hz
    have E := Lib.hid e
    clear e hz
    go_enter Tryd.func74, Tryd.ntmps74
    go_wp2
    go_ret
    exact ⟨by rw [E.out]; rfl, Below.refl _ _⟩
  · have e : partB m z = !decide ((m : Int) ≤ z) := by
      have : decide (0 ≤ z) = true := by simp; omega
      rw [partB, this, Bool.true_and, Bool.eq_iff_iff]; simp
    have d : decide (z < 0) = false := by simpa using hz
    have E := Lib.hid e
    clear e hz
    go_enter Tryd.func74, Tryd.ntmps74
    go_wp2
    go_ret
    exact ⟨by rw [E.out]; simp, Below.refl _ _⟩
set_option maxHeartbeats 1000000 in
theorem indexW_any (A : Option Addr) (n c : Nat) (l : List Int) (Af : Option Addr) (m cf b : Nat) (w : World) (B : Nat) (hn : n = l.length) (hs : Sl w B 1 A n c (icells l)) (hB : B ≤ w.heap.size) (hl : n ≤ 100000000000)
    (h0 : w.cell? ⟨b, 0, none⟩ = some (.slice Af m cf)) :
    Calls Tryd.prog 90 #[.slice A n c, .func (.func 74) #[] #[.pointer (some ⟨b, 0, none⟩)]] w (Fnd w (!l.all (partB m))) := by
  subst hn
  have hb0 := World.block_lt_of_cell? w _ h0
  go_enter Tryd.func90, Tryd.ntmps90
  go_wp2
  go_loopw [8] (fun i wr => ∃ k : Nat, k ≤ l.length ∧ i = .int .i64 k ∧ Below w.heap.size w wr ∧ Hid ((l.take k).all (partB m) = true)) (fun i _ => l.length - (intOf i).toNat)
  case atStart => exact ⟨0, by omega, rfl, Below.refl _ _, rfl⟩
  case round =>
    obtain ⟨k, hk, rfl, hbr, HA⟩ := hrel
    have hsw := hbr.size
    by_cases hlt : k < l.length
    · obtain ⟨bb, o, rfl, _, hc0⟩ := (hs.rd.below hbr hB).at_ (icells_at' hlt)
      have hsn := all_take' hlt HA.out
      have hno := fun h => all_not' (p := partB m) hlt h
      have g0 := (hbr.cell (p := ⟨b, 0, none⟩) hb0).trans h0
      generalize hx : l[k] = x at *
      have HC := Lib.hid (good1_any Af m cf x b wr g0)
      have HS := Lib.hid hsn
      have HN := Lib.hid hno
      have Hx := Lib.hid hx
      clear hx hsn hno g0 h0
      cases hb : partB m x
      · have HB := Lib.hid hb
        clear hb
        go_wp2_with fail
        refine Calls.mono HC.out ?_
        rw [HB.out]
        rintro e w2 ⟨rfl, hb2⟩
        go_wp2
        go_ret
        exact ⟨_, rfl, by omega, by omega, hbr.trans (hb2.mono hsw), by rw [HN.out HB.out]; simp⟩
      · have HB := Lib.hid hb
        clear hb
        go_wp2_with fail
        refine Calls.mono HC.out ?_
        rw [HB.out]
        rintro e w2 ⟨rfl, hb2⟩
        go_wp2
        go_roundw
        case rel => exact ⟨k + 1, by omega, by go_num, hbr.trans (hb2.mono hsw), by show _ = _; rw [HS.out]; exact HB.out⟩
        case measure => simp [intOf]; omega
    · have hkl : k = l.length := by omega
      subst hkl
      rw [List.take_of_length_le (Nat.le_refl _)] at HA
      go_wp2
      go_ret
      exact ⟨_, rfl, by omega, by omega, hbr, by rw [HA.out]; rfl⟩
set_option maxHeartbeats 400000 in
theorem containsW_any (A : Option Addr) (n c : Nat) (l : List Int) (Af : Option Addr) (m cf b : Nat) (w : World) (B : Nat) (hn : n = l.length) (hs : Sl w B 1 A n c (icells l)) (hB : B ≤ w.heap.size) (hl : n ≤ 100000000000)
    (h0 : w.cell? ⟨b, 0, none⟩ = some (.slice Af m cf)) :
    Calls Tryd.prog 75 #[.slice A n c, .func (.func 74) #[] #[.pointer (some ⟨b, 0, none⟩)]] w (Tru w (!l.all (partB m))) := by
  go_enter Tryd.func75, Tryd.ntmps75
  have hI := Lib.hid (indexW_any A n c l Af m cf b w B hn hs hB hl h0)
  clear hn hs hl h0
  go_wp2_with fail
  refine Calls.mono hI.out ?_
  rintro e w1 ⟨k, rfl, _, _, hb, hk⟩
  go_wp2
  go_ret
  exact ⟨rfl, hb⟩
set_option maxHeartbeats 1000000 in
theorem good_any (A : Option Addr) (c : Nat) (f : List Nd) (Ap : Option Addr) (np cp : Nat) (ps : List Int) (w : World) (B : Nat) (hf : Sl w B 2 A f.length c (ncells f)) (hp : Sl w B 1 Ap np cp (icells ps)) (hnp : np = ps.length) (hB : B ≤ w.heap.size) (hl : f.length ≤ 1000000) (hpl : np ≤ 1000000) :
    Calls Tryd.prog 51 #[.slice A f.length c, .slice Ap np cp] w (Tru w (goodB f ps)) := by
  have hb0 : Below w.heap.size w (w.alloc (.cells #[.slice A f.length c] 22)) := (Below.refl _ _).alloc (Nat.le_refl _) _
  have hc0 : (w.alloc (.cells #[.slice A f.length c] 22)).cell? ⟨w.heap.size, 0, none⟩ = some (.slice A f.length c) := by rw [cell_of_row _ _ 0 _ _ (0, 0) (heap_alloc_new _ _)]; rfl
  have HI := Lib.hid (Is_any A c f _ B (hf.below hb0 hB) (Nat.le_trans hB hb0.size) hl)
  have hz0 : (w.alloc (.cells #[.slice A f.length c] 22)).heap.size = w.heap.size + 1 := by simp
  obtain ⟨W0, hW0⟩ : ∃ W0, w.alloc (.cells #[.slice A f.length c] 22) = W0 := ⟨_, rfl⟩
  rw [hW0] at hb0 hc0 HI hz0
  have HW0 := Lib.hid hW0
  clear hW0
  have HG : Hid (goodB f ps = (isN f && decide (f.length ≤ 50) && ps.all (partB f.length))) := Lib.hid rfl
  cases hN : isN f
  · rw [hN] at HI HG
    have HNN := Lib.hid hN
    clear hN
    go_enter Tryd.func51, Tryd.ntmps51
    go_wp2_with fail
    rw [HW0.out]
    go_wp2_with fail
    refine Calls.mono HI.out ?_
    rintro e w1 ⟨rfl, hb1⟩
    go_wp2
    go_ret
    exact ⟨by rw [HG.out]; rfl, hb0.trans (hb1.mono (by omega))⟩
  · rw [hN] at HI HG
    have HNN := Lib.hid hN
    clear hN
    by_cases h50 : f.length ≤ 50
    · have d50 : decide ((f.length : Int) ≤ 50) = true := by simp; omega
      have HL : Hid (decide (f.length ≤ 50) = true) := Lib.hid (by simpa using h50)
      go_enter Tryd.func51, Tryd.ntmps51
      go_wp2_with fail
      rw [HW0.out]
      go_wp2_with fail
      refine Calls.mono HI.out ?_
      rintro e w1 ⟨rfl, hb1⟩
      have hc1 := (hb1.cell (p := ⟨w.heap.size, 0, none⟩) (by show w.heap.size < W0.heap.size; omega)).trans hc0
      have hb01 := hb0.trans (hb1.mono (by omega))
      have HC := Lib.hid (containsW_any Ap np cp ps A f.length c w.heap.size w1 B hnp (hp.below hb01 hB) (Nat.le_trans hB hb01.size) (by omega) hc1)
      clear hp hnp
      go_wp2_with fail
      refine Calls.mono HC.out ?_
      rintro e w2 ⟨rfl, hb2⟩
      go_wp2
      go_ret
      exact ⟨by rw [HG.out, HL.out]; simp, hb01.trans (hb2.mono hb01.size)⟩
    · have d50 : decide ((f.length : Int) ≤ 50) = false := by simp; omega
      have HL : Hid (decide (f.length ≤ 50) = false) := Lib.hid (by simpa using h50)
      go_enter Tryd.func51, Tryd.ntmps51
      go_wp2_with fail
      rw [HW0.out]
      go_wp2_with fail
      refine Calls.mono HI.out ?_
      rintro e w1 ⟨rfl, hb1⟩
      have hc1 := (hb1.cell (p := ⟨w.heap.size, 0, none⟩) (by show w.heap.size < W0.heap.size; omega)).trans hc0
      go_wp2
      go_ret
      exact ⟨by rw [HG.out, HL.out]; rfl, hb0.trans (hb1.mono (by omega))⟩

set_option maxHeartbeats 1000000 in
theorem index_any (A : Option Addr) (n c : Nat) (l : List Int) (z : Int) (w : World) (B : Nat) (hn : n = l.length) (hs : Sl w B 1 A n c (icells l)) (hB : B ≤ w.heap.size) (hl : n ≤ 100000000000) :
    Calls Tryd.prog 94 #[.slice A n c, .int .i64 z] w (Fnd w (l.any (z == ·))) := by
  subst hn
  go_enter Tryd.func94, Tryd.ntmps94
  go_wp2
  go_loopw [8] (fun i wr => ∃ k : Nat, k ≤ l.length ∧ i = .int .i64 k ∧ Below w.heap.size w wr ∧ Hid ((l.take k).any (z == ·) = false)) (fun i _ => l.length - (intOf i).toNat)
  case atStart => exact ⟨0, by omega, rfl, Below.refl _ _, rfl⟩
  case round =>
    obtain ⟨k, hk, rfl, hbr, HA⟩ := hrel
    have hsw := hbr.size
    by_cases hlt : k < l.length
    · obtain ⟨bb, o, rfl, _, hc0⟩ := (hs.rd.below hbr hB).at_ (icells_at' hlt)
      have hsn : (l.take (k + 1)).any (z == ·) = (z == l[k]) := by rw [take_snoc l k hlt, List.any_append, HA.out]; simp
      have hyes : (z == l[k]) = true → l.any (z == ·) = true := fun h => List.any_eq_true.2 ⟨l[k], List.getElem_mem hlt, h⟩
      generalize l[k] = x at *
      have HS := Lib.hid hsn
      have HY := Lib.hid hyes
      clear hsn hyes
      cases hb : (z == x)
      · have HB := Lib.hid hb
        go_wp2
        go_roundw
        case rel => exact ⟨k + 1, by omega, by go_num, hbr, by show _ = _; rw [HS.out]; exact HB.out⟩
        case measure => simp [intOf]; omega
      · have HB := Lib.hid hb
        go_wp2
        go_ret
        exact ⟨_, rfl, by omega, by omega, hbr, by rw [HY.out HB.out]; simp⟩
    · have hkl : k = l.length := by omega
      subst hkl
      rw [List.take_of_length_le (Nat.le_refl _)] at HA
      go_wp2
      go_ret
      exact ⟨_, rfl, by omega, by omega, hbr, by rw [HA.out]; rfl⟩
set_option maxHeartbeats 400000 in
theorem contains_any (A : Option Addr) (n c : Nat) (l : List Int) (z : Int) (w : World) (B : Nat) (hn : n = l.length) (hs : Sl w B 1 A n c (icells l)) (hB : B ≤ w.heap.size) (hl : n ≤ 100000000000) :
    Calls Tryd.prog 85 #[.slice A n c, .int .i64 z] w (Tru w (l.any (z == ·))) := by
  go_enter Tryd.func85, Tryd.ntmps85
  have hI := Lib.hid (index_any A n c l z w B hn hs hB hl)
  clear hn hs hl
  go_wp2_with fail
  refine Calls.mono hI.out ?_
  rintro e w1 ⟨k, rfl, _, _, hb, hk⟩
  go_wp2
  go_ret
  exact ⟨rfl, hb⟩
end Go.Proofs.YtamhjgkigjpbhaaDoor
