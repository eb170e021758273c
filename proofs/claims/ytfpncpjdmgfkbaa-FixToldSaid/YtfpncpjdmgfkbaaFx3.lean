/- The walks of fix's reference: fill, less; rows of bools. -/
import Derived.Test.YtfpncpjdmgfkbaaFx2
namespace Go.Proofs.Ytfpncpjdmgfkbaa
open Go.RowKit

def bcells (l : List Bool) : List Value := l.map Value.bool
theorem own_setb {w : World} {base q ne t : Nat} {D : List Bool} {d : Bool} (h : w.ownsRow base 4 1 (.slice (some ⟨q, 0, none⟩) ne ne) ne (bcells D)) :
    (w.setCell ⟨q, t, none⟩ (.bool d)).ownsRow base 4 1 (.slice (some ⟨q, 0, none⟩) ne ne) ne (bcells (D.set t d)) := by
  have := (h.stored t (.bool d)).1
  rw [bcells, List.map_set]; exact this
theorem own_getb {w : World} {base q ne t : Nat} {D : List Bool} (h : w.ownsRow base 4 1 (.slice (some ⟨q, 0, none⟩) ne ne) ne (bcells D)) (ht : t < ne) :
    w.cell? ⟨q, t, none⟩ = some (.bool (D.getD t false)) ∧ w.frozen? ⟨q, t, none⟩ = false ∧ q < w.heap.size ∧ D.length = ne := by
  have hl : D.length = ne := by have := h.1; simpa [bcells] using this
  refine ⟨?_, h.frozenAt t, (h.lt q rfl).2, hl⟩
  rw [h.cellAt t (by omega)]
  simp [bcells, List.getD, hl, ht]
/-- A row that is filled from the front: k done. -/
theorem row_set {n k : Nat} (hk : k < n) (f : Nat → Bool) (z : Bool) : ((List.range k).map f ++ List.replicate (n - k) z).set k (f k) = (List.range (k + 1)).map f ++ List.replicate (n - (k + 1)) z := by
  refine List.ext_getElem (by simp; omega) (fun i h1 h2 => ?_)
  rw [List.getElem_set]
  simp only [List.getElem_append, List.getElem_replicate, List.getElem_map, List.getElem_range, List.length_map, List.length_range]
  by_cases e : k = i
  · subst e; simp
  · rw [if_neg e]
    by_cases e2 : i < k
    · rw [dif_pos e2, dif_pos (by omega)]
    · rw [dif_neg e2, dif_neg (by omega)]

set_option maxHeartbeats 1000000 in
theorem fill_any (n : Nat) (w : World) (hn : n ≤ 1000000000) :
    Calls Try.prog 69 #[.int .i64 (n : Int)] w (NewRow w 4 1 n (bcells (List.replicate n true)) False) := by
  have hmk := run_make_row' (P := Try.prog) 35 4 (.bool false) 1 Try.underlying35 infoBool rfl .i64 .i64 n (by omega) (by omega)
  go_enter Try.func69, Try.ntmps69
  go_wp2
  have hF0 : (w.alloc (.cells (madeCells #[.bool false] n) 4)).ownsRow w.heap.size 4 1 (.slice (some ⟨w.heap.size, 0, none⟩) n n) n (bcells ((List.range 0).map (fun _ => true) ++ List.replicate (n - 0) false)) := by
    have := own_made (w := w) (base := w.heap.size) (e := 4) (n := n) (v := .bool false) (Nat.le_refl _) (by unfold maxLen; omega)
    simpa [bcells] using this
  have hb1 : Below w.heap.size w (w.alloc (.cells (madeCells #[.bool false] n) 4)) := (Below.refl _ _).alloc (Nat.le_refl _) _
  generalize w.alloc (.cells (madeCells #[.bool false] n) 4) = w1 at *
  generalize hqe : w.heap.size = qf at *
  clear hmk
  go_loopw [4] (fun i wr => ∃ k : Nat, k ≤ n ∧ i = .int .i64 k ∧ wr.ownsRow qf 4 1 (.slice (some ⟨qf, 0, none⟩) n n) n (bcells ((List.range k).map (fun _ => true) ++ List.replicate (n - k) false)) ∧ Below qf w wr) (fun i _ => n - (intOf i).toNat)
  case atStart => exact ⟨0, by omega, rfl, hF0, hb1⟩
  case round =>
    obtain ⟨k, hk, rfl, hF, ht⟩ := hrel
    clear hF0
    by_cases hlt : k < n
    · obtain ⟨_, f1, f2, _⟩ := own_getb hF hlt
      have hcell := (own_getb hF hlt).1
      have hF2 := own_setb (t := k) (d := true) hF
      rw [row_set hlt (fun _ => true) false] at hF2
      have HF2 := Lib.hid hF2
      have HT := Lib.hid (ht.setCell (p := ⟨qf, k, none⟩) (Nat.le_refl _) (.bool true))
      clear hF hF2 ht
      go_wp2
      go_roundw
      case rel => exact ⟨k + 1, by omega, by go_num, HF2.out, HT.out⟩
      case measure => simp [intOf]; omega
    · have hkn : k = n := by omega
      have hF1 : wr.ownsRow qf 4 1 (.slice (some ⟨qf, 0, none⟩) n n) n (bcells (List.replicate n true)) := by
        have : (List.range k).map (fun _ => true) ++ List.replicate (n - k) false = List.replicate n true := by
          rw [hkn]
          refine List.ext_getElem (by simp) (fun i h1 h2 => by simp)
        rw [this] at hF; exact hF
      have HF1 := Lib.hid hF1
      have HT := Lib.hid ht
      clear hF hF1 ht hkn
      go_wp2
      go_ret
      exact ⟨_, rfl, by rw [hqe]; exact HF1.out, by rw [hqe]; exact HT.out, by simp⟩

def lessB (xs ys : List Bool) (k : Nat) : Bool := (List.range k).any (fun i => xs.getD i false && !ys.getD i false)
theorem lessB_succ (xs ys : List Bool) (k : Nat) : lessB xs ys (k + 1) = (lessB xs ys k || (xs.getD k false && !ys.getD k false)) := by
  rw [lessB, List.range_succ, List.any_append, List.any_cons, List.any_nil, Bool.or_false, lessB]
theorem lessB_of {xs ys : List Bool} {k n : Nat} (hk : k < n) (h : (xs.getD k false && !ys.getD k false) = true) : lessB xs ys n = true := List.any_eq_true.2 ⟨k, List.mem_range.2 hk, h⟩
set_option maxHeartbeats 1000000 in
theorem less_any (A1 A2 : Option Addr) (n c1 c2 : Nat) (xs ys : List Bool) (w : World) (B1 B2 : Nat) (hx : Sl w B1 1 A1 n c1 (xs.map (.bool))) (hy : Sl w B2 1 A2 n c2 (ys.map (.bool)))
    (hn1 : n = xs.length) (hn2 : n = ys.length) (hl : n ≤ 1000000000) :
    Calls Try.prog 71 #[.slice A1 n c1, .slice A2 n c2] w (Tru w (lessB xs ys n)) := by
  have HN1 := Lib.hid hn1
  have HN2 := Lib.hid hn2
  clear hn1 hn2
  go_enter Try.func71, Try.ntmps71
  go_wp2
  go_loopw [5] (fun i wr => ∃ k : Nat, k ≤ n ∧ i = .int .i64 k ∧ wr = w ∧ Hid (lessB xs ys k = false)) (fun i _ => n - (intOf i).toNat)
  case atStart => exact ⟨0, by omega, rfl, rfl, Lib.hid rfl⟩
  case round =>
    obtain ⟨k, hk, rfl, rfl, ht⟩ := hrel
    by_cases hlt : k < n
    · have hkx : k < xs.length := by rw [← HN1.out]; exact hlt
      have hky : k < ys.length := by rw [← HN2.out]; exact hlt
      obtain ⟨b, o, rfl, _, hc⟩ := hx.rd.at_ (bcells'_at hkx)
      obtain ⟨b', o', rfl, _, hc'⟩ := hy.rd.at_ (bcells'_at hky)
      have hs := lessB_succ xs ys k
      have hof := fun h => lessB_of (xs := xs) (ys := ys) hlt h
      generalize xs.getD k false = x at *
      generalize ys.getD k false = y at *
      have HS := Lib.hid hs
      have HO := Lib.hid hof
      clear hs hof
      have h0 : (0 : Int) ≤ (k : Int) := by omega
      have h1 : (k : Int) < (n : Int) := by omega
      cases x
      · go_wp2
        go_roundw
        case rel => exact ⟨k + 1, by omega, by go_num, by trivial, Lib.hid (by rw [HS.out, ht.out]; rfl)⟩
        case measure => simp [intOf]; omega
      · cases y
        · go_wp2
          go_ret
          exact ⟨ret_bool (by simp [HO.out rfl]), Below.refl _ _⟩
        · go_wp2
          go_roundw
          case rel => exact ⟨k + 1, by omega, by go_num, by trivial, Lib.hid (by rw [HS.out, ht.out]; rfl)⟩
          case measure => simp [intOf]; omega
    · have hkn : k = n := by omega
      have ht' := ht.out
      rw [hkn] at ht'
      have HT := Lib.hid ht'
      clear ht' hkn
      go_wp2
      go_ret
      exact ⟨ret_bool (by simp [HT.out]), Below.refl _ _⟩
end Go.Proofs.Ytfpncpjdmgfkbaa
