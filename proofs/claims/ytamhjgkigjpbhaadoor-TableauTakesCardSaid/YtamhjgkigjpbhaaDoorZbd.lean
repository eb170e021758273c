/- Texts that stand one behind the other, in one file. -/
import Derived.Test.YtamhjgkigjpbhaaDoorMc
import Derived.Test.YtamhjgkigjpbhaaDoorGrP
import Derived.Test.YtamhjgkigjpbhaaDoorProg
import Derived.Test.YtamhjgkigjpbhaaDoorMa
import Derived.Test.YtamhjgkigjpbhaaDoorZag
import Derived.Test.YtamhjgkigjpbhaaDoorZac
import Derived.Outline
import Derived.Deep.RegionHeld3

/- Arguments opened: slices of slices; graphs. No program in sight. -/
namespace Go.Proofs.YtamhjgkigjpbhaaDoor
open Go.ChangeShapes Go.WideShapes Go.RowKit Go.Deep

/-- A graph as it lies in memory. -/
structure GrRd (w : World) (B : Nat) (ai : Option Addr) (ni ci : Nat) (ae : Option Addr) (ne ce : Nat) (al : Option Addr) (nl cl : Nat) (G : Gph) : Prop where
  hi : Sl w B 1 ai ni ci (icells G.init)
  he : Sl2 w B 2 ae ne ce (G.edges.map ncells)
  hl : Sl w B 1 al nl cl (G.labels.map (.int .u64))
theorem GrRd.below {w w' : World} {B B' ni ci ne ce nl cl : Nat} {ai ae al : Option Addr} {G : Gph} (h : GrRd w B ai ni ci ae ne ce al nl cl G) (hb : Below B' w w') (hB : B ≤ B') : GrRd w' B ai ni ci ae ne ce al nl cl G :=
  ⟨h.hi.below hb hB, h.he.below hb hB, h.hl.below hb hB⟩
theorem GrRd.up {w : World} {B B' ni ci ne ce nl cl : Nat} {ai ae al : Option Addr} {G : Gph} (h : GrRd w B ai ni ci ae ne ce al nl cl G) (hB : B ≤ B') : GrRd w B' ai ni ci ae ne ce al nl cl G :=
  ⟨h.hi.up hB, h.he.up hB, h.hl.up hB⟩
theorem GrRd.lens {w : World} {B ni ci ne ce nl cl : Nat} {ai ae al : Option Addr} {G : Gph} (h : GrRd w B ai ni ci ae ne ce al nl cl G) : ni = G.init.length ∧ ne = G.edges.length ∧ nl = G.labels.length := by
  have h1 := h.hi.len
  have h2 := h.he.len
  have h3 := h.hl.len
  simp [icells] at h1 h2 h3
  exact ⟨by omega, by omega, by omega⟩

section
variable {H : Type} {enc : TypeId × Value → H} {P : Program} {w : World} {base : Nat} {spare : Nat → Bool} {held : Bool}

end
end Go.Proofs.YtamhjgkigjpbhaaDoor

/- The walks of layer 6 and of its reference: nodes, goals. -/
namespace Go.Proofs.YtamhjgkigjpbhaaDoor
open Go.RowKit

section
variable (ai ae al : Option Addr) (ni ci ne ce nl cl : Nat)

set_option maxHeartbeats 400000 in
theorem nodeR_any (i : Int) (w : World) : Calls Tryd.prog 95 #[.agg #[.slice ai ni ci, .slice ae ne ce, .slice al nl cl], .int .i64 i] w (Tru w (isNd ne i)) := by
  have hb := fun o => (Below.refl w.heap.size w).alloc (Nat.le_refl _) o
  by_cases h0 : 0 ≤ i
  · have h0' : decide (0 ≤ i) = true := by simpa using h0
    by_cases h1 : i < (ne : Int)
    · have h1' : decide (i < (ne : Int)) = true := by simpa using h1
      have hr : isNd ne i = true := isNd_iff.2 ⟨h0, h1⟩
      go_enter Tryd.func95, Tryd.ntmps95
      go_wp2
      go_ret
      exact ⟨ret_bool (by simp [hr]), hb _⟩
    · have h1' : decide (i < (ne : Int)) = false := by simpa using h1
      have hr : isNd ne i = false := by simp [isNd, h1]
      have HR := Lib.hid hr
      clear hr
      go_enter Tryd.func95, Tryd.ntmps95
      go_wp2
      go_ret
      exact ⟨ret_bool (by simp [HR.out]), hb _⟩
  · have h0' : decide (0 ≤ i) = false := by simpa using h0
    have hr : isNd ne i = false := by simp [isNd, h0]
    have HR := Lib.hid hr
    clear hr
    go_enter Tryd.func95, Tryd.ntmps95
    go_wp2
    go_ret
    exact ⟨ret_bool (by simp [HR.out]), hb _⟩
end

theorem bcells'_at {l : List Bool} {i : Nat} (h : i < l.length) : (l.map Value.bool)[i]? = some (.bool (l.getD i false)) := by simp [List.getD, h]
def goalsTo (goal : List Bool) (k : Nat) : List Int := ((List.range k).filter (fun i => goal.getD i false)).map (fun (i : Nat) => (i : Int))
theorem goalsTo_succ (goal : List Bool) (k : Nat) : goalsTo goal (k + 1) = goalsTo goal k ++ if goal.getD k false = true then [(k : Int)] else [] := by
  rw [goalsTo, goalsTo, List.range_succ, List.filter_append, List.map_append]
  congr 1
  rw [List.filter_cons, List.filter_nil]
  split
  · rfl
  · rfl
theorem goalsTo_len (goal : List Bool) (k : Nat) : (goalsTo goal k).length ≤ k := by
  rw [goalsTo, List.length_map]
  exact Nat.le_trans (List.length_filter_le _ _) (by simp)

/-- A struct of three cells, boxed: the world behind. -/
theorem boxed3 (w : World) (x0 x1 x2 : Value) (t : Nat) : ∃ w0, w0 = w.alloc (.cells #[x0, x1, x2] t) ∧ Below w.heap.size w w0 ∧ w0.heap.size = w.heap.size + 1 ∧
    w0.cell? ⟨w.heap.size, 0, none⟩ = some x0 ∧ w0.cell? ⟨w.heap.size, 1, none⟩ = some x1 ∧ w0.cell? ⟨w.heap.size, 2, none⟩ = some x2 :=
  ⟨_, rfl, (Below.refl _ _).alloc (Nat.le_refl _) _, by simp, by rw [cell_of_row _ _ _ _ _ _ (heap_alloc_new w _)]; rfl, by rw [cell_of_row _ _ _ _ _ _ (heap_alloc_new w _)]; rfl, by rw [cell_of_row _ _ _ _ _ _ (heap_alloc_new w _)]; rfl⟩

section
variable (ai ae al : Option Addr) (ni ci ne ce nl cl : Nat)
set_option maxHeartbeats 1000000 in
theorem goalsR_any (A : Option Addr) (n c : Nat) (goal : List Bool) (w : World) (B : Nat) (hn : n = goal.length) (hs : Sl w B 1 A n c (goal.map .bool)) (hB : B ≤ w.heap.size) (hl : n ≤ 1000000000) (hne : ne ≤ 1000000000) :
    Calls Tryd.prog 88 #[.agg #[.slice ai ni ci, .slice ae ne ce, .slice al nl cl], .slice A n c] w (NewRow w 3 1 (goalsG ne goal).length (icells (goalsG ne goal)) (goalsG ne goal = [])) := by
  subst hn
  obtain ⟨w0, hw0, hb0, hz0, _, hx1, _⟩ := boxed3 w (.slice ai ni ci) (.slice ae ne ce) (.slice al nl cl) 72
  have HW0 := Lib.hid hw0
  clear hw0
  have hend : goalsG ne goal = goalsTo goal (min goal.length ne) := rfl
  have HE := Lib.hid hend
  clear hend
  go_enter Tryd.func88, Tryd.ntmps88
  go_wp2
  rw [← HW0.out]
  clear HW0
  have hs0 := hs.below hb0 hB
  have hr0 : w0.ownsRow w0.heap.size 3 1 (.slice none 0 0) (goalsTo goal 0).length (icells (goalsTo goal 0)) := World.ownsRow_nil _ _ _ _
  go_loopw [5, 6] (fun v i wr => ∃ k : Nat, k ≤ min goal.length ne ∧ i = .int .i64 k ∧ wr.ownsRow w0.heap.size 3 1 v (goalsTo goal k).length (icells (goalsTo goal k)) ∧ Below w0.heap.size w0 wr ∧ (v = .slice none 0 0 ↔ goalsTo goal k = [])) (fun _ i _ => min goal.length ne - (intOf i).toNat)
  case atStart => exact ⟨0, by omega, rfl, hr0, Below.refl _ _, by simp [goalsTo]⟩
  case round =>
    obtain ⟨k, hk, rfl, hown, hbel, hnil⟩ := hrel
    have hz := hbel.size
    have hx1r := (hbel.cell (p := ⟨w.heap.size, 1, none⟩) (show w.heap.size < w0.heap.size by omega)).trans hx1
    have HN := Lib.hid hnil
    clear hr0 hx1 hnil
    have hlk := goalsTo_len goal k
    by_cases hlt : k < min goal.length ne
    · have hlt1 : k < goal.length := by omega
      have hlt2 : k < ne := by omega
      have d1 : decide ((k : Int) < (ne : Int)) = true := by simp; omega
      have d2 : decide ((k : Int) < (goal.length : Int)) = true := by simp; omega
      obtain ⟨b, o, rfl, _, hc⟩ := (hs0.rd.below hbel (by omega)).at_ (bcells'_at hlt1)
      have hsn := goalsTo_succ goal k
      generalize goal.getD k false = x at *
      have HS := Lib.hid hsn
      clear hsn
      cases x
      · go_wp2
        go_roundw
        case rel => exact ⟨k + 1, by omega, by go_num, by rw [HS.out]; simpa using hown, hbel, by rw [HS.out]; simpa using HN.out⟩
        case measure => simp [intOf]; omega
      · go_wp2_with (at_builtin; refine wpList_push rfl (.tmp 24) (.tmp 26) 25 rfl w0.heap.size 3 1 8 sliceInt _ _ _ (hown.alloc _) rfl wr.heap.size #[.int .i64 k] rfl (heap_alloc_new wr _) rfl (by simp [Value.oneCell']) (by omega) (by omega) (by simp; omega) ?_; intro v3 w3 hown3 ht3 hat3 hne3)
        go_roundw
        case rel =>
          refine ⟨k + 1, by omega, by go_num, ?_, ?_, by rw [HS.out]; simp [hne3]⟩
          · rw [HS.out, icells_append, List.length_append]; exact hown3
          · exact (hbel.alloc hz _).trans (ht3.below (by simp; omega) (fun g hg h => by have := (hown.lt g h).1; omega))
        case measure => simp [intOf]; omega
    · have hkl : k = min goal.length ne := by omega

      go_wp2
      all_goals
        go_ret
        exact ⟨_, rfl, by rw [HE.out, ← hkl]; exact own_base hown (by omega), hb0.trans (hbel.mono (by omega)), by rw [HE.out, ← hkl]; exact HN.out⟩
end
end Go.Proofs.YtamhjgkigjpbhaaDoor

/- The walks of layer 6: Check, and its reference's. -/
namespace Go.Proofs.YtamhjgkigjpbhaaDoor
open Go.RowKit

section
variable (ai ae al : Option Addr) (ni ci ne ce nl cl : Nat)

theorem ed_take {E : List (List Nd)} {k : Nat} (hk : k < E.length) : (E.map ncells)[k]? = some (ncells E[k]) := by simp [hk]

end
end Go.Proofs.YtamhjgkigjpbhaaDoor

/- The walk of a function that holds two lists against one another. -/
namespace Go.Proofs.YtamhjgkigjpbhaaDoor
open Go.RowKit

set_option maxHeartbeats 1000000 in
theorem equalI_any (A1 A2 : Option Addr) (n1 c1 n2 c2 : Nat) (xs ys : List Int) (w : World) (B1 B2 : Nat) (hx : Sl w B1 1 A1 n1 c1 (xs.map (.int .i64))) (hy : Sl w B2 1 A2 n2 c2 (ys.map (.int .i64)))
    (hn1 : n1 = xs.length) (hn2 : n2 = ys.length) (hl : n1 ≤ 100000000000000) :
    Calls Tryd.prog 19 #[.slice A1 n1 c1, .slice A2 n2 c2] w (Said w (decide (xs = ys))) := by
  by_cases hne : n1 = n2
  · subst hne
    have HN1 := Lib.hid hn1
    have HN2 := Lib.hid hn2
    clear hn1 hn2
    have hd : ((n1 : Int) != (n1 : Int)) = false := by simp
    go_enter Tryd.func19, Tryd.ntmps19
    go_wp2
    go_loopw [13] (fun i wr => ∃ k m : Nat, k ≤ n1 ∧ i = .int .i64 k ∧ wr = w.drewN m ∧ Hid (xs.take k = ys.take k)) (fun i _ => n1 - (intOf i).toNat)
    case atStart => exact ⟨0, 0, by omega, rfl, rfl, rfl⟩
    case round =>
      obtain ⟨k, m, hk, rfl, rfl, ht⟩ := hrel
      by_cases hlt : k < n1
      · have hkx : k < xs.length := by rw [← HN1.out]; exact hlt
        have hky : k < ys.length := by rw [← HN2.out]; exact hlt
        obtain ⟨b, o, rfl, _, hc⟩ := hx.rd.at_ (j := k) (u := .int .i64 xs[k]) (by simp [hkx])
        obtain ⟨b', o', rfl, _, hc'⟩ := hy.rd.at_ (j := k) (u := .int .i64 ys[k]) (by simp [hky])
        have hs := fun h => take_eq_snoc ht.out hkx hky h
        generalize hX : xs[k] = x at *
        generalize hY : ys[k] = y at *
        have HX := Lib.hid hX
        have HY := Lib.hid hY
        have HS := Lib.hid hs
        clear hX hY hs
        have h0 : (0 : Int) ≤ (k : Int) := by omega
        have h1 : (k : Int) < (n1 : Int) := by omega
        rcases Decidable.em (x = y) with he | he
        · have hb : (x != y) = false := by simp [he]
          have HE := Lib.hid he
          clear he
          go_wp2_with fail
          go_quiet (fail)
          go_wp2
          go_roundw
          case rel => exact ⟨k + 1, _, by omega, by go_num, by first | rfl | rw [World.drewN_drewN], HS.out HE.out⟩
          case measure => simp [intOf]; omega
        · have hb : (x != y) = true := by simp [he]
          have HE := Lib.hid he
          clear he
          go_wp2_with fail
          go_quiet (fail)
          go_wp2
          go_ret
          refine ⟨ret_bool ?_, _, by rw [World.drewN_drewN]⟩
          symm; rw [decide_eq_false_iff_not]
          rintro rfl
          exact HE.out (HX.out.symm.trans HY.out)
      · have hkn : k = n1 := by omega
        subst hkn
        go_wp2
        go_ret
        refine ⟨ret_bool ?_, _, rfl⟩
        have := ht.out
        rw [List.take_of_length_le (by rw [← HN1.out]; exact Nat.le_refl _), List.take_of_length_le (by rw [← HN2.out]; exact Nat.le_refl _)] at this
        simp [this]
  · have hd : ((n1 : Int) != (n2 : Int)) = true := by simp; omega
    have HD := Lib.hid hne
    have HN1 := Lib.hid hn1
    have HN2 := Lib.hid hn2
    clear hne hn1 hn2
    go_enter Tryd.func19, Tryd.ntmps19
    go_wp2
    go_ret
    refine ⟨ret_bool ?_, 0, rfl⟩
    symm; rw [decide_eq_false_iff_not]
    intro h
    exact HD.out (by rw [HN1.out, HN2.out, h])
end Go.Proofs.YtamhjgkigjpbhaaDoor
