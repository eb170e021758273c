/- The walks of layer 3's reference: Of, With, Both; and the plain laws of what they make. -/
import Derived.Test.YtikhlcdgibnolaaDoorTr3
namespace Go.Proofs.YtikhlcdgibnolaaDoor
open Go.RowKit

theorem own_setb {w : World} {base q ne t : Nat} {D : List Bool} {d : Bool} (h : w.ownsRow base 4 1 (.slice (some ⟨q, 0, none⟩) ne ne) ne (bcells D)) :
    (w.setCell ⟨q, t, none⟩ (.bool d)).ownsRow base 4 1 (.slice (some ⟨q, 0, none⟩) ne ne) ne (bcells (D.set t d)) := by
  have := (h.stored t (.bool d)).1
  rw [bcells, List.map_set]; exact this
theorem own_getb {w : World} {base q ne t : Nat} {D : List Bool} (h : w.ownsRow base 4 1 (.slice (some ⟨q, 0, none⟩) ne ne) ne (bcells D)) (ht : t < ne) :
    w.cell? ⟨q, t, none⟩ = some (.bool (D.getD t false)) ∧ w.frozen? ⟨q, t, none⟩ = false ∧ q < w.heap.size ∧ D.length = ne := by
  have hl : D.length = ne := by have := h.1; simpa [bcells] using this
  refine ⟨?_, h.frozenAt t, (h.lt q rfl).2, hl⟩
  rw [h.cellAt t (by omega)]
  simp [bcells, List.getD, hl, ht]
/-- The reference's set of a list of numbers. -/
def ofL (n : Nat) (l : List Int) (x : List Bool) : List Bool := l.foldl (fun x i => if inB n i = true then x.set i.toNat true else x) x
theorem ofL_snoc {n : Nat} {l : List Int} {x : List Bool} {k : Nat} (hk : k < l.length) : ofL n (l.take (k + 1)) x = if inB n l[k] = true then (ofL n (l.take k) x).set l[k].toNat true else ofL n (l.take k) x := by
  rw [List.take_succ_eq_append_getElem hk, ofL, List.foldl_append]; rfl
theorem icells_at {l : List Int} {k : Nat} (h : k < l.length) : (icells l)[k]? = some (.int .i64 l[k]) := by simp [icells, h]

set_option maxHeartbeats 1000000 in
theorem rOf_any (n : Nat) (A : Option Addr) (m c : Nat) (l : List Int) (w : World) (B : Nat) (hn : n ≤ 65536) (hm : m = l.length) (hs : Sl w B 1 A m c (icells l)) (hB : B ≤ w.heap.size) (hlm : m ≤ 17592186044416) :
    Calls Tryd.prog 23 #[.int .i64 (n : Int), .slice A m c] w (RowB w n (ofL n l (List.replicate n false))) := by
  have hall : ofL n (l.take m) (List.replicate n false) = ofL n l (List.replicate n false) := by rw [hm, List.take_length]
  have HA := Lib.hid hall
  have HM := Lib.hid hm
  have HR := Lib.hid (rNew_any n w hn)
  clear hall hm
  go_enter Tryd.func23, Tryd.ntmps23
  go_wp2_with fail
  refine Calls.mono HR.out ?_
  rintro e w1 ⟨g, rfl, hown, hb1⟩
  clear HR
  go_wp2
  go_loopw [8] (fun i wr => ∃ k : Nat, k ≤ m ∧ i = .int .i64 k ∧ wr.ownsRow w.heap.size 4 1 (.slice (some ⟨g, 0, none⟩) n n) n (bcells (ofL n (l.take k) (List.replicate n false))) ∧ Below w.heap.size w wr) (fun i _ => m - (intOf i).toNat)
  case atStart => exact ⟨0, by omega, rfl, hown, hb1⟩
  case round =>
    clear hown hb1
    obtain ⟨k, hk, rfl, hown, hbel⟩ := hrel
    by_cases hlt : k < m
    · have hkx : k < l.length := by rw [← HM.out]; exact hlt
      obtain ⟨b, o, rfl, hbB, hc⟩ := hs.rd.at_ (icells_at hkx)
      have hc' := (hbel.cell (p := ⟨b, o + k, none⟩) (by show b < _; omega)).trans hc
      have hsn := ofL_snoc (n := n) (x := List.replicate n false) hkx
      have HS := Lib.hid hs
      clear hs hc
      generalize l[k] = y at *
      generalize ofL n (l.take k) (List.replicate n false) = D at *
      have hlt' : (k : Int) < (m : Int) := by omega
      by_cases h0 : 0 ≤ y
      · have d0 : decide (0 ≤ y) = true := by simpa using h0
        obtain ⟨y, rfl⟩ := Int.eq_ofNat_of_zero_le h0
        by_cases h1 : y < n
        · have hin : inB n (y : Int) = true := by simp [inB]; omega
          rw [if_pos hin, Int.toNat_natCast] at hsn
          have d1 : decide ((y : Int) < (n : Int)) = true := by simp; omega
          obtain ⟨g1, g2, g3, _⟩ := own_getb hown h1
          have hset := own_setb (t := y) (d := true) hown
          have hg0 := (hown.lt g rfl).1
          have HST := Lib.hid hset
          have HSN := Lib.hid hsn
          have HT := Lib.hid (hbel.setCell (p := ⟨g, y, none⟩) hg0 (.bool true))
          clear hown hset hsn hin d0 hbel
          go_wp2
          go_roundw
          case rel => exact ⟨k + 1, by omega, by go_num, by rw [HSN.out]; exact HST.out, HT.out⟩
          case measure => simp [intOf]; omega
        · have hin : ¬ inB n (y : Int) = true := by simp [inB]; omega
          rw [if_neg hin] at hsn
          have d1 : decide ((y : Int) < (n : Int)) = false := by simp; omega
          have HSN := Lib.hid hsn
          clear hsn hin d0
          go_wp2
          go_roundw
          case rel => exact ⟨k + 1, by omega, by go_num, by rw [HSN.out]; exact hown, hbel⟩
          case measure => simp [intOf]; omega
      · have d0 : decide (0 ≤ y) = false := by simpa using h0
        have hin : ¬ inB n y = true := by simp [inB]; omega
        rw [if_neg hin] at hsn
        have HSN := Lib.hid hsn
        clear hsn hin
        go_wp2
        go_roundw
        case rel => exact ⟨k + 1, by omega, by go_num, by rw [HSN.out]; exact hown, hbel⟩
        case measure => simp [intOf]; omega
    · have hk' : k = m := by omega
      subst hk'
      go_wp2
      go_ret2
      exact ⟨g, rfl, by rw [← HA.out]; exact hown, hbel⟩
set_option maxHeartbeats 1000000 in
theorem rOfNil_any (n : Int) (A : Option Addr) (m c : Nat) (l : List Int) (w : World) (B : Nat) (hn : n < 0 ∨ 65536 < n) (hm : m = l.length) (hs : Sl w B 1 A m c (icells l)) :
    Calls Tryd.prog 23 #[.int .i64 n, .slice A m c] w fun e w' => e = .returned (.tuple #[.slice none 0 0, .bool false]) ∧ w' = w := by
  have HM := Lib.hid hm
  have HR := Lib.hid (rNewNil_any n w hn)
  have hcap := hs.cap
  have hmax := hs.max
  unfold maxLen at hmax
  clear hm hn
  go_enter Tryd.func23, Tryd.ntmps23
  go_wp2_with fail
  refine Calls.mono HR.out ?_
  rintro e w1 ⟨rfl, rfl⟩
  clear HR
  go_wp2
  go_loopw [8] (fun i wr => ∃ k : Nat, k ≤ m ∧ i = .int .i64 k ∧ wr = w1) (fun i _ => m - (intOf i).toNat)
  case atStart => exact ⟨0, by omega, rfl, rfl⟩
  case round =>
    obtain ⟨k, hk, rfl, rfl⟩ := hrel
    by_cases hlt : k < m
    · have hkx : k < l.length := by rw [← HM.out]; exact hlt
      obtain ⟨b, o, rfl, hbB, hc⟩ := hs.rd.at_ (icells_at hkx)
      have HS := Lib.hid hs
      clear hs
      generalize l[k] = y at *
      have hlt' : (k : Int) < (m : Int) := by omega
      by_cases h0 : 0 ≤ y
      · have d0 : decide (0 ≤ y) = true := by simpa using h0
        have d1 : decide (y < 0) = false := by simpa using h0
        clear h0
        go_wp2
        go_roundw
        case rel => exact ⟨k + 1, by omega, by go_num, trivial⟩
        case measure => simp [intOf]; omega
      · have d0 : decide (0 ≤ y) = false := by simpa using h0
        clear h0
        go_wp2
        go_roundw
        case rel => exact ⟨k + 1, by omega, by go_num, trivial⟩
        case measure => simp [intOf]; omega
    · have hk' : k = m := by omega
      subst hk'
      go_wp2
      go_ret2
      exact ⟨rfl, rfl⟩
end Go.Proofs.YtikhlcdgibnolaaDoor
