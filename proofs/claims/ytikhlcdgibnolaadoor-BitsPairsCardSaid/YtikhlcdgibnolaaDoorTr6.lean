/- The walks of layer 3's reference: Both. -/
import Derived.Test.YtikhlcdgibnolaaDoorTr5
namespace Go.Proofs.YtikhlcdgibnolaaDoor
open Go.RowKit

theorem row_set {n k : Nat} (hk : k < n) (f : Nat → Bool) (z : Bool) : ((List.range k).map f ++ List.replicate (n - k) z).set k (f k) = (List.range (k + 1)).map f ++ List.replicate (n - (k + 1)) z := by
  refine List.ext_getElem (by simp; omega) (fun i h1 h2 => ?_)
  rw [List.getElem_set]
  simp only [List.getElem_append, List.getElem_replicate, List.getElem_map, List.getElem_range, List.length_map, List.length_range]
  by_cases e : k = i
  · subst e; simp
  · rw [if_neg e]
    by_cases e2 : i < k
    · rw [dif_pos e2, dif_pos (by omega)]
    · rw [dif_neg e2, dif_neg (by omega)]
def bothF (how : Nat) (a b : List Bool) (i : Nat) : Bool :=
  match how with
  | 0 => a.getD i false && b.getD i false
  | 1 => a.getD i false || b.getD i false
  | _ => a.getD i false && !b.getD i false
def bothL (n how : Nat) (a b : List Bool) : List Bool := (List.range n).map (bothF how a b)
theorem bothL_len (n how : Nat) (a b : List Bool) : (bothL n how a b).length = n := by simp [bothL]
set_option maxHeartbeats 1000000 in
theorem rBoth0_any (A1 A2 : Option Addr) (n c1 c2 : Nat) (xs ys : List Bool) (w : World) (B : Nat) (hx : Sl w B 1 A1 n c1 (bcells xs)) (hy : Sl w B 1 A2 n c2 (bcells ys))
    (hn1 : n = xs.length) (hn2 : n = ys.length) (hl : n ≤ 1000000) (hB : B ≤ w.heap.size) :
    Calls Tryd.prog 31 #[.slice A1 n c1, .slice A2 n c2, .int .i64 0] w (NewRow w 4 1 n (bcells (bothL n 0 xs ys)) False) := by
  have HN1 := Lib.hid hn1
  have HN2 := Lib.hid hn2
  clear hn1 hn2
  have hmk := run_make_row' (P := Tryd.prog) 34 4 (.bool false) 1 Tryd.underlying34 infoBool rfl .i64 .i64 n (by omega) (by omega)
  go_enter Tryd.func31, Tryd.ntmps31
  go_wp2
  have hF0 : (w.alloc (.cells (madeCells #[.bool false] n) 4)).ownsRow w.heap.size 4 1 (.slice (some ⟨w.heap.size, 0, none⟩) n n) n (bcells ((List.range 0).map (bothF 0 xs ys) ++ List.replicate (n - 0) false)) := by
    have := own_made (w := w) (base := w.heap.size) (e := 4) (n := n) (v := .bool false) (Nat.le_refl _) (by unfold maxLen; omega)
    simpa [bcells] using this
  have hb1 : Below w.heap.size w (w.alloc (.cells (madeCells #[.bool false] n) 4)) := (Below.refl _ _).alloc (Nat.le_refl _) _
  generalize w.alloc (.cells (madeCells #[.bool false] n) 4) = w1 at *
  generalize hqe : w.heap.size = qf at *
  clear hmk
  go_loopw [8] (fun i wr => ∃ k : Nat, k ≤ n ∧ i = .int .i64 k ∧ wr.ownsRow qf 4 1 (.slice (some ⟨qf, 0, none⟩) n n) n (bcells ((List.range k).map (bothF 0 xs ys) ++ List.replicate (n - k) false)) ∧ Below qf w wr) (fun i _ => n - (intOf i).toNat)
  case atStart => exact ⟨0, by omega, rfl, hF0, hb1⟩
  case round =>
    obtain ⟨k, hk, rfl, hF, ht⟩ := hrel
    clear hF0
    by_cases hlt : k < n
    · have hkx : k < xs.length := by rw [← HN1.out]; exact hlt
      have hky : k < ys.length := by rw [← HN2.out]; exact hlt
      obtain ⟨b, o, rfl, hb, hc⟩ := hx.rd.at_ (bcells_at hkx)
      obtain ⟨b', o', rfl, hb', hc'⟩ := hy.rd.at_ (bcells_at hky)
      have hcx := (ht.cell (p := ⟨b, o + k, none⟩) (by show b < _; omega)).trans hc
      have hcy := (ht.cell (p := ⟨b', o' + k, none⟩) (by show b' < _; omega)).trans hc'
      obtain ⟨_, f1, f2, _⟩ := own_getb hF hlt
      have hcell := (own_getb hF hlt).1
      have hF2 := own_setb (t := k) (d := bothF 0 xs ys k) hF
      rw [row_set hlt (bothF 0 xs ys) false] at hF2
      have he : bothF 0 xs ys k = (xs.getD k false && ys.getD k false) := rfl
      generalize ((List.range k).map (bothF 0 xs ys) ++ List.replicate (n - k) false).getD k false = u at hcell
      generalize bothF 0 xs ys k = z at he hF2
      generalize xs.getD k false = x at *
      generalize ys.getD k false = y at *
      have HF2 := Lib.hid hF2
      have HT := Lib.hid (ht.setCell (p := ⟨qf, k, none⟩) (Nat.le_refl _) (.bool z))
      have hlt' : (k : Int) < (n : Int) := by omega
      clear hF hF2 ht hc hc'
      cases x
      all_goals cases y
      all_goals
        (simp only [Bool.and_true, Bool.and_false] at he; subst he; go_wp2; go_roundw)
        case rel => exact ⟨k + 1, by omega, by go_num, HF2.out, HT.out⟩
        case measure => simp [intOf]; omega
    · have hkn : k = n := by omega
      have hF1 : wr.ownsRow qf 4 1 (.slice (some ⟨qf, 0, none⟩) n n) n (bcells (bothL n 0 xs ys)) := by
        rw [hkn, Nat.sub_self, List.replicate_zero, List.append_nil] at hF; exact hF
      have HF1 := Lib.hid hF1
      have HT := Lib.hid ht
      clear hF hF1 ht hkn
      go_wp2
      go_ret
      exact ⟨_, rfl, by rw [hqe]; exact HF1.out, by rw [hqe]; exact HT.out, by simp⟩
set_option maxHeartbeats 1000000 in
theorem rBoth1_any (A1 A2 : Option Addr) (n c1 c2 : Nat) (xs ys : List Bool) (w : World) (B : Nat) (hx : Sl w B 1 A1 n c1 (bcells xs)) (hy : Sl w B 1 A2 n c2 (bcells ys))
    (hn1 : n = xs.length) (hn2 : n = ys.length) (hl : n ≤ 1000000) (hB : B ≤ w.heap.size) :
    Calls Tryd.prog 31 #[.slice A1 n c1, .slice A2 n c2, .int .i64 1] w (NewRow w 4 1 n (bcells (bothL n 1 xs ys)) False) := by
  have HN1 := Lib.hid hn1
  have HN2 := Lib.hid hn2
  clear hn1 hn2
  have hmk := run_make_row' (P := Tryd.prog) 34 4 (.bool false) 1 Tryd.underlying34 infoBool rfl .i64 .i64 n (by omega) (by omega)
  go_enter Tryd.func31, Tryd.ntmps31
  go_wp2
  have hF0 : (w.alloc (.cells (madeCells #[.bool false] n) 4)).ownsRow w.heap.size 4 1 (.slice (some ⟨w.heap.size, 0, none⟩) n n) n (bcells ((List.range 0).map (bothF 1 xs ys) ++ List.replicate (n - 0) false)) := by
    have := own_made (w := w) (base := w.heap.size) (e := 4) (n := n) (v := .bool false) (Nat.le_refl _) (by unfold maxLen; omega)
    simpa [bcells] using this
  have hb1 : Below w.heap.size w (w.alloc (.cells (madeCells #[.bool false] n) 4)) := (Below.refl _ _).alloc (Nat.le_refl _) _
  generalize w.alloc (.cells (madeCells #[.bool false] n) 4) = w1 at *
  generalize hqe : w.heap.size = qf at *
  clear hmk
  go_loopw [8] (fun i wr => ∃ k : Nat, k ≤ n ∧ i = .int .i64 k ∧ wr.ownsRow qf 4 1 (.slice (some ⟨qf, 0, none⟩) n n) n (bcells ((List.range k).map (bothF 1 xs ys) ++ List.replicate (n - k) false)) ∧ Below qf w wr) (fun i _ => n - (intOf i).toNat)
  case atStart => exact ⟨0, by omega, rfl, hF0, hb1⟩
  case round =>
    obtain ⟨k, hk, rfl, hF, ht⟩ := hrel
    clear hF0
    by_cases hlt : k < n
    · have hkx : k < xs.length := by rw [← HN1.out]; exact hlt
      have hky : k < ys.length := by rw [← HN2.out]; exact hlt
      obtain ⟨b, o, rfl, hb, hc⟩ := hx.rd.at_ (bcells_at hkx)
      obtain ⟨b', o', rfl, hb', hc'⟩ := hy.rd.at_ (bcells_at hky)
      have hcx := (ht.cell (p := ⟨b, o + k, none⟩) (by show b < _; omega)).trans hc
      have hcy := (ht.cell (p := ⟨b', o' + k, none⟩) (by show b' < _; omega)).trans hc'
      obtain ⟨_, f1, f2, _⟩ := own_getb hF hlt
      have hcell := (own_getb hF hlt).1
      have hF2 := own_setb (t := k) (d := bothF 1 xs ys k) hF
      rw [row_set hlt (bothF 1 xs ys) false] at hF2
      have he : bothF 1 xs ys k = (xs.getD k false || ys.getD k false) := rfl
      generalize ((List.range k).map (bothF 1 xs ys) ++ List.replicate (n - k) false).getD k false = u at hcell
      generalize bothF 1 xs ys k = z at he hF2
      generalize xs.getD k false = x at *
      generalize ys.getD k false = y at *
      have HF2 := Lib.hid hF2
      have HT := Lib.hid (ht.setCell (p := ⟨qf, k, none⟩) (Nat.le_refl _) (.bool z))
      have hlt' : (k : Int) < (n : Int) := by omega
      clear hF hF2 ht hc hc'
      cases x
      all_goals cases y
      all_goals
        (simp only [Bool.or_true, Bool.or_false] at he; subst he; go_wp2; go_roundw)
        case rel => exact ⟨k + 1, by omega, by go_num, HF2.out, HT.out⟩
        case measure => simp [intOf]; omega
    · have hkn : k = n := by omega
      have hF1 : wr.ownsRow qf 4 1 (.slice (some ⟨qf, 0, none⟩) n n) n (bcells (bothL n 1 xs ys)) := by
        rw [hkn, Nat.sub_self, List.replicate_zero, List.append_nil] at hF; exact hF
      have HF1 := Lib.hid hF1
      have HT := Lib.hid ht
      clear hF hF1 ht hkn
      go_wp2
      go_ret
      exact ⟨_, rfl, by rw [hqe]; exact HF1.out, by rw [hqe]; exact HT.out, by simp⟩
set_option maxHeartbeats 1000000 in
theorem rBoth2_any (A1 A2 : Option Addr) (n c1 c2 : Nat) (xs ys : List Bool) (w : World) (B : Nat) (hx : Sl w B 1 A1 n c1 (bcells xs)) (hy : Sl w B 1 A2 n c2 (bcells ys))
    (hn1 : n = xs.length) (hn2 : n = ys.length) (hl : n ≤ 1000000) (hB : B ≤ w.heap.size) :
    Calls Tryd.prog 31 #[.slice A1 n c1, .slice A2 n c2, .int .i64 2] w (NewRow w 4 1 n (bcells (bothL n 2 xs ys)) False) := by
  have HN1 := Lib.hid hn1
  have HN2 := Lib.hid hn2
  clear hn1 hn2
  have hmk := run_make_row' (P := Tryd.prog) 34 4 (.bool false) 1 Tryd.underlying34 infoBool rfl .i64 .i64 n (by omega) (by omega)
  go_enter Tryd.func31, Tryd.ntmps31
  go_wp2
  have hF0 : (w.alloc (.cells (madeCells #[.bool false] n) 4)).ownsRow w.heap.size 4 1 (.slice (some ⟨w.heap.size, 0, none⟩) n n) n (bcells ((List.range 0).map (bothF 2 xs ys) ++ List.replicate (n - 0) false)) := by
    have := own_made (w := w) (base := w.heap.size) (e := 4) (n := n) (v := .bool false) (Nat.le_refl _) (by unfold maxLen; omega)
    simpa [bcells] using this
  have hb1 : Below w.heap.size w (w.alloc (.cells (madeCells #[.bool false] n) 4)) := (Below.refl _ _).alloc (Nat.le_refl _) _
  generalize w.alloc (.cells (madeCells #[.bool false] n) 4) = w1 at *
  generalize hqe : w.heap.size = qf at *
  clear hmk
  go_loopw [8] (fun i wr => ∃ k : Nat, k ≤ n ∧ i = .int .i64 k ∧ wr.ownsRow qf 4 1 (.slice (some ⟨qf, 0, none⟩) n n) n (bcells ((List.range k).map (bothF 2 xs ys) ++ List.replicate (n - k) false)) ∧ Below qf w wr) (fun i _ => n - (intOf i).toNat)
  case atStart => exact ⟨0, by omega, rfl, hF0, hb1⟩
  case round =>
    obtain ⟨k, hk, rfl, hF, ht⟩ := hrel
    clear hF0
    by_cases hlt : k < n
    · have hkx : k < xs.length := by rw [← HN1.out]; exact hlt
      have hky : k < ys.length := by rw [← HN2.out]; exact hlt
      obtain ⟨b, o, rfl, hb, hc⟩ := hx.rd.at_ (bcells_at hkx)
      obtain ⟨b', o', rfl, hb', hc'⟩ := hy.rd.at_ (bcells_at hky)
      have hcx := (ht.cell (p := ⟨b, o + k, none⟩) (by show b < _; omega)).trans hc
      have hcy := (ht.cell (p := ⟨b', o' + k, none⟩) (by show b' < _; omega)).trans hc'
      obtain ⟨_, f1, f2, _⟩ := own_getb hF hlt
      have hcell := (own_getb hF hlt).1
      have hF2 := own_setb (t := k) (d := bothF 2 xs ys k) hF
      rw [row_set hlt (bothF 2 xs ys) false] at hF2
      have he : bothF 2 xs ys k = (xs.getD k false && !ys.getD k false) := rfl
      generalize ((List.range k).map (bothF 2 xs ys) ++ List.replicate (n - k) false).getD k false = u at hcell
      generalize bothF 2 xs ys k = z at he hF2
      generalize xs.getD k false = x at *
      generalize ys.getD k false = y at *
      have HF2 := Lib.hid hF2
      have HT := Lib.hid (ht.setCell (p := ⟨qf, k, none⟩) (Nat.le_refl _) (.bool z))
      have hlt' : (k : Int) < (n : Int) := by omega
      clear hF hF2 ht hc hc'
      cases x
      all_goals cases y
      all_goals
        (simp only [Bool.and_true, Bool.and_false, Bool.not_true, Bool.not_false] at he; subst he; go_wp2; go_roundw)
        case rel => exact ⟨k + 1, by omega, by go_num, HF2.out, HT.out⟩
        case measure => simp [intOf]; omega
    · have hkn : k = n := by omega
      have hF1 : wr.ownsRow qf 4 1 (.slice (some ⟨qf, 0, none⟩) n n) n (bcells (bothL n 2 xs ys)) := by
        rw [hkn, Nat.sub_self, List.replicate_zero, List.append_nil] at hF; exact hF
      have HF1 := Lib.hid hF1
      have HT := Lib.hid ht
      clear hF hF1 ht hkn
      go_wp2
      go_ret
      exact ⟨_, rfl, by rw [hqe]; exact HF1.out, by rw [hqe]; exact HT.out, by simp⟩
end Go.Proofs.YtikhlcdgibnolaaDoor
