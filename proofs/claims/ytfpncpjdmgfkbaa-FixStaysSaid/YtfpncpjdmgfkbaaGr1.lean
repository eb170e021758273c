/- The walks of layer 6 and of its reference: nodes, goals. -/
import Derived.Test.YtfpncpjdmgfkbaaProg
import Derived.Test.YtfpncpjdmgfkbaaMa
import Derived.Test.YtfpncpjdmgfkbaaMd
import Derived.Test.YtfpncpjdmgfkbaaMb
import Derived.Test.YtfpncpjdmgfkbaaMc
import Derived.Outline
namespace Go.Proofs.Ytfpncpjdmgfkbaa
open Go.RowKit

section
variable (ai ae al : Option Addr) (ni ci ne ce nl cl : Nat)

set_option maxHeartbeats 400000 in
theorem nodeR_any (i : Int) (w : World) : Calls Try.prog 28 #[.agg #[.slice ai ni ci, .slice ae ne ce, .slice al nl cl], .int .i64 i] w (Tru w (isNd ne i)) := by
  have hb := fun o => (Below.refl w.heap.size w).alloc (Nat.le_refl _) o
  by_cases h0 : 0 ≤ i
  · have h0' : decide (0 ≤ i) = true := by simpa using h0
    by_cases h1 : i < (ne : Int)
    · have h1' : decide (i < (ne : Int)) = true := by simpa using h1
      have hr : isNd ne i = true := isNd_iff.2 ⟨h0, h1⟩
      go_enter Try.func28, Try.ntmps28
      go_wp2
      go_ret
      exact ⟨ret_bool (by simp [hr]), hb _⟩
    · have h1' : decide (i < (ne : Int)) = false := by simpa using h1
      have hr : isNd ne i = false := by simp [isNd, h1]
      have HR := Lib.hid hr
      clear hr
      go_enter Try.func28, Try.ntmps28
      go_wp2
      go_ret
      exact ⟨ret_bool (by simp [HR.out]), hb _⟩
  · have h0' : decide (0 ≤ i) = false := by simpa using h0
    have hr : isNd ne i = false := by simp [isNd, h0]
    have HR := Lib.hid hr
    clear hr
    go_enter Try.func28, Try.ntmps28
    go_wp2
    go_ret
    exact ⟨ret_bool (by simp [HR.out]), hb _⟩
set_option maxHeartbeats 400000 in
theorem node_any (i : Int) (w : World) : Calls Try.prog 45 #[.agg #[.slice ai ni ci, .slice ae ne ce, .slice al nl cl], .int .i64 i] w (Tru w (isNd ne i)) := by
  have hb := fun o => (Below.refl w.heap.size w).alloc (Nat.le_refl _) o
  by_cases h0 : 0 ≤ i
  · have h0' : decide (0 ≤ i) = true := by simpa using h0
    by_cases h1 : i < (ne : Int)
    · have h1' : decide (i < (ne : Int)) = true := by simpa using h1
      have hr : isNd ne i = true := isNd_iff.2 ⟨h0, h1⟩
      go_enter Try.func45, Try.ntmps45
      go_wp2
      go_ret
      exact ⟨ret_bool (by simp [hr]), hb _⟩
    · have h1' : decide (i < (ne : Int)) = false := by simpa using h1
      have hr : isNd ne i = false := by simp [isNd, h1]
      have HR := Lib.hid hr
      clear hr
      go_enter Try.func45, Try.ntmps45
      go_wp2
      go_ret
      exact ⟨ret_bool (by simp [HR.out]), hb _⟩
  · have h0' : decide (0 ≤ i) = false := by simpa using h0
    have hr : isNd ne i = false := by simp [isNd, h0]
    have HR := Lib.hid hr
    clear hr
    go_enter Try.func45, Try.ntmps45
    go_wp2
    go_ret
    exact ⟨ret_bool (by simp [HR.out]), hb _⟩
end

theorem bcells'_at {l : List Bool} {i : Nat} (h : i < l.length) : (l.map Value.bool)[i]? = some (.bool (l.getD i false)) := by simp [List.getD, h]
def goalsTo (goal : List Bool) (k : Nat) : List Int := ((List.range k).filter (fun i => goal.getD i false)).map (fun (i : Nat) => (i : Int))
theorem goalsTo_succ (goal : List Bool) (k : Nat) : goalsTo goal (k + 1) = goalsTo goal k ++ if goal.getD k false = true then [(k : Int)] else [] := by
  rw [goalsTo, goalsTo, List.range_succ, List.filter_append, List.map_append]
  congr 1
  rw [List.filter_cons, List.filter_nil]
  split
  · rfl
  · rfl
theorem goalsTo_len (goal : List Bool) (k : Nat) : (goalsTo goal k).length ≤ k := by
  rw [goalsTo, List.length_map]
  exact Nat.le_trans (List.length_filter_le _ _) (by simp)

/-- A struct of three cells, boxed: the world behind. -/
theorem boxed3 (w : World) (x0 x1 x2 : Value) (t : Nat) : ∃ w0, w0 = w.alloc (.cells #[x0, x1, x2] t) ∧ Below w.heap.size w w0 ∧ w0.heap.size = w.heap.size + 1 ∧
    w0.cell? ⟨w.heap.size, 0, none⟩ = some x0 ∧ w0.cell? ⟨w.heap.size, 1, none⟩ = some x1 ∧ w0.cell? ⟨w.heap.size, 2, none⟩ = some x2 :=
  ⟨_, rfl, (Below.refl _ _).alloc (Nat.le_refl _) _, by simp, by rw [cell_of_row _ _ _ _ _ _ (heap_alloc_new w _)]; rfl, by rw [cell_of_row _ _ _ _ _ _ (heap_alloc_new w _)]; rfl, by rw [cell_of_row _ _ _ _ _ _ (heap_alloc_new w _)]; rfl⟩

section
variable (ai ae al : Option Addr) (ni ci ne ce nl cl : Nat)
set_option maxHeartbeats 1000000 in
theorem goalsR_any (A : Option Addr) (n c : Nat) (goal : List Bool) (w : World) (B : Nat) (hn : n = goal.length) (hs : Sl w B 1 A n c (goal.map .bool)) (hB : B ≤ w.heap.size) (hl : n ≤ 1000000000) (hne : ne ≤ 1000000000) :
    Calls Try.prog 63 #[.agg #[.slice ai ni ci, .slice ae ne ce, .slice al nl cl], .slice A n c] w (NewRow w 3 1 (goalsG ne goal).length (icells (goalsG ne goal)) (goalsG ne goal = [])) := by
  subst hn
  obtain ⟨w0, hw0, hb0, hz0, _, hx1, _⟩ := boxed3 w (.slice ai ni ci) (.slice ae ne ce) (.slice al nl cl) 26
  have HW0 := Lib.hid hw0
  clear hw0
  have hend : goalsG ne goal = goalsTo goal (min goal.length ne) := rfl
  have HE := Lib.hid hend
  clear hend
  go_enter Try.func63, Try.ntmps63
  go_wp2
  rw [← HW0.out]
  clear HW0
  have hs0 := hs.below hb0 hB
  have hr0 : w0.ownsRow w0.heap.size 3 1 (.slice none 0 0) (goalsTo goal 0).length (icells (goalsTo goal 0)) := World.ownsRow_nil _ _ _ _
  go_loopw [5, 6] (fun v i wr => ∃ k : Nat, k ≤ min goal.length ne ∧ i = .int .i64 k ∧ wr.ownsRow w0.heap.size 3 1 v (goalsTo goal k).length (icells (goalsTo goal k)) ∧ Below w0.heap.size w0 wr ∧ (v = .slice none 0 0 ↔ goalsTo goal k = [])) (fun _ i _ => min goal.length ne - (intOf i).toNat)
  case atStart => exact ⟨0, by omega, rfl, hr0, Below.refl _ _, by simp [goalsTo]⟩
  case round =>
    obtain ⟨k, hk, rfl, hown, hbel, hnil⟩ := hrel
    have hz := hbel.size
    have hx1r := (hbel.cell (p := ⟨w.heap.size, 1, none⟩) (show w.heap.size < w0.heap.size by omega)).trans hx1
    have HN := Lib.hid hnil
    clear hr0 hx1 hnil
    have hlk := goalsTo_len goal k
    by_cases hlt : k < min goal.length ne
    · have hlt1 : k < goal.length := by omega
      have hlt2 : k < ne := by omega
      have d1 : decide ((k : Int) < (ne : Int)) = true := by simp; omega
      have d2 : decide ((k : Int) < (goal.length : Int)) = true := by simp; omega
      obtain ⟨b, o, rfl, _, hc⟩ := (hs0.rd.below hbel (by omega)).at_ (bcells'_at hlt1)
      have hsn := goalsTo_succ goal k
      generalize goal.getD k false = x at *
      have HS := Lib.hid hsn
      clear hsn
      cases x
      · go_wp2
        go_roundw
        case rel => exact ⟨k + 1, by omega, by go_num, by rw [HS.out]; simpa using hown, hbel, by rw [HS.out]; simpa using HN.out⟩
        case measure => simp [intOf]; omega
      · go_wp2_with (at_builtin; refine wpList_push rfl (.tmp 24) (.tmp 26) 22 rfl w0.heap.size 3 1 8 sliceInt _ _ _ (hown.alloc _) rfl wr.heap.size #[.int .i64 k] rfl (heap_alloc_new wr _) rfl (by simp [Value.oneCell']) (by omega) (by omega) (by simp; omega) ?_; intro v3 w3 hown3 ht3 hat3 hne3)
        go_roundw
        case rel =>
          refine ⟨k + 1, by omega, by go_num, ?_, ?_, by rw [HS.out]; simp [hne3]⟩
          · rw [HS.out, icells_append, List.length_append]; exact hown3
          · exact (hbel.alloc hz _).trans (ht3.below (by simp; omega) (fun g hg h => by have := (hown.lt g h).1; omega))
        case measure => simp [intOf]; omega
    · have hkl : k = min goal.length ne := by omega

      go_wp2
      all_goals
        go_ret
        exact ⟨_, rfl, by rw [HE.out, ← hkl]; exact own_base hown (by omega), hb0.trans (hbel.mono (by omega)), by rw [HE.out, ← hkl]; exact HN.out⟩
set_option maxHeartbeats 1000000 in
theorem goals_any (A : Option Addr) (n c mn : Nat) (hmn : mn = min n ne) (goal : List Bool) (w : World) (B : Nat) (hn : n = goal.length) (hs : Sl w B 1 A n c (goal.map .bool)) (hB : B ≤ w.heap.size) (hl : n ≤ 1000000000) (hne : ne ≤ 1000000000) :
    Calls Try.prog 57 #[.agg #[.slice ai ni ci, .slice ae ne ce, .slice al nl cl], .slice A n c] w (NewRow w 3 1 (goalsG ne goal).length (icells (goalsG ne goal)) (goalsG ne goal = [])) := by
  subst hn
  obtain ⟨w0, hw0, hb0, hz0, _, hx1, _⟩ := boxed3 w (.slice ai ni ci) (.slice ae ne ce) (.slice al nl cl) 26
  have HW0 := Lib.hid hw0
  clear hw0
  have hend : goalsG ne goal = goalsTo goal mn := by rw [hmn]; rfl
  have hm1 : mn ≤ goal.length := by omega
  have hm2 : mn ≤ ne := by omega
  have hm3 : (if ((goal.length : Nat) : Int) ≤ (ne : Int) then ((goal.length : Nat) : Int) else (ne : Int)) = (mn : Int) := by split <;> omega
  have HE := Lib.hid hend
  have HM3 := Lib.hid hm3
  clear hend hm3
  go_enter Try.func57, Try.ntmps57
  rcases (show (ne < goal.length ∧ mn = ne) ∨ (goal.length ≤ ne ∧ mn = goal.length) by omega) with ⟨hc, he⟩ | ⟨hc, he⟩
  all_goals
    have HQ := Lib.hid he
    clear he hmn
    go_wp2
    rw [← HW0.out]
    clear HW0
    have hs0 := hs.below hb0 hB
    have hr0 : w0.ownsRow w0.heap.size 3 1 (.slice none 0 0) (goalsTo goal 0).length (icells (goalsTo goal 0)) := World.ownsRow_nil _ _ _ _
    go_loopw [5, 13] (fun v i wr => ∃ k : Nat, k ≤ mn ∧ i = .int .i64 k ∧ wr.ownsRow w0.heap.size 3 1 v (goalsTo goal k).length (icells (goalsTo goal k)) ∧ Below w0.heap.size w0 wr ∧ (v = .slice none 0 0 ↔ goalsTo goal k = [])) (fun _ i _ => mn - (intOf i).toNat)
    case atStart => exact ⟨0, by omega, rfl, hr0, Below.refl _ _, by simp [goalsTo]⟩
    case round =>
      obtain ⟨k, hk, rfl, hown, hbel, hnil⟩ := hrel
      have hz := hbel.size
      have hx1r := (hbel.cell (p := ⟨w.heap.size, 1, none⟩) (show w.heap.size < w0.heap.size by omega)).trans hx1
      have HN := Lib.hid hnil
      clear hr0 hx1 hnil
      have hlk := goalsTo_len goal k
      by_cases hlt : k < mn
      · have hlt1 : k < goal.length := by omega
        have hlt2 : k < ne := by omega
        have d1 : decide ((k : Int) < (ne : Int)) = true := by simp; omega
        have d2 : decide ((k : Int) < (goal.length : Int)) = true := by simp; omega
        obtain ⟨b, o, rfl, _, hc⟩ := (hs0.rd.below hbel (by omega)).at_ (bcells'_at hlt1)
        have hsn := goalsTo_succ goal k
        generalize goal.getD k false = x at *
        have HS := Lib.hid hsn
        clear hsn
        cases x
        · go_wp2
          go_roundw
          case rel => exact ⟨k + 1, by omega, by go_num, by rw [HS.out]; simpa using hown, hbel, by rw [HS.out]; simpa using HN.out⟩
          case measure => simp [intOf]; omega
        · go_wp2_with (at_builtin; refine wpList_push rfl (.tmp 20) (.tmp 22) 22 rfl w0.heap.size 3 1 8 sliceInt _ _ _ (hown.alloc _) rfl wr.heap.size #[.int .i64 k] rfl (heap_alloc_new wr _) rfl (by simp [Value.oneCell']) (by omega) (by omega) (by simp; omega) ?_; intro v3 w3 hown3 ht3 hat3 hne3)
          go_roundw
          case rel =>
            refine ⟨k + 1, by omega, by go_num, ?_, ?_, by rw [HS.out]; simp [hne3]⟩
            · rw [HS.out, icells_append, List.length_append]; exact hown3
            · exact (hbel.alloc hz _).trans (ht3.below (by simp; omega) (fun g hg h => by have := (hown.lt g h).1; omega))
          case measure => simp [intOf]; omega
      · have hkl : k = mn := by omega
        have HKL := Lib.hid hkl
        first
          | have d3 : decide (k < ne) = false := (by have := HQ.out; simp; omega)
          | have d3 : decide (k < goal.length) = false := (by have := HQ.out; simp; omega)
        clear hkl
        go_wp2
        all_goals
          go_ret
          exact ⟨_, rfl, by rw [HE.out, ← HKL.out]; exact own_base hown (by omega), hb0.trans (hbel.mono (by omega)), by rw [HE.out, ← HKL.out]; exact HN.out⟩
end
end Go.Proofs.Ytfpncpjdmgfkbaa
