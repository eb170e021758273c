/- Rows of bools and of sets in memory: filled place by place, and rows of such rows. -/
import Derived.Test.YtamhjgkigjpbhaaDoorProg
import Derived.Test.YtamhjgkigjpbhaaDoorMa
import Derived.OwnWalk
namespace Go.Proofs.YtamhjgkigjpbhaaDoor
open Go.RowKit

def bcells (l : List Bool) : List Value := l.map .bool
theorem bcells_len (l : List Bool) : (bcells l).length = l.length := by simp [bcells]
theorem bcells_append (l r : List Bool) : bcells (l ++ r) = bcells l ++ bcells r := by simp [bcells]
theorem bcells_one (l : List Bool) : ∀ u ∈ bcells l, u.oneCell' = true := by
  intro u hu
  obtain ⟨b, _, rfl⟩ := List.mem_map.1 hu
  rfl
theorem bcells_at {l : List Bool} {i : Nat} (h : i < l.length) : (bcells l)[i]? = some (.bool (l.getD i false)) := by simp [bcells, List.getD, h]
theorem sliceBool : SliceT Tryd.prog 73 4 1 1 :=
  SliceT.mk (z := .bool false) Tryd.underlying73 (by kernel_rfl) (by decide) (by decide)
theorem infoBool : (Tryd.prog.info? 4).map (fun i => (i.zero, i.size, i.bytes)) = some (some (.bool false), 1, 1) := by kernel_rfl
theorem made_bools (n : Nat) : (madeCells (Value.bool false).cells (n * 1)).toList = bcells (List.replicate n false) := by
  rw [Nat.mul_one, show (Value.bool false).cells = #[.bool false] from rfl, toList_madeCells_one, bcells, List.map_replicate]
def ucells (l : List Int) : List Value := l.map (.int .u64)
/-- A row of n, filled as far as k. -/
def upto (n : Nat) (F : Nat → Bool) (k : Nat) : List Bool := (List.range n).map fun j => if j < k then F j else false
theorem upto_zero (n : Nat) (F : Nat → Bool) : upto n F 0 = List.replicate n false := by
  apply List.ext_getElem <;> simp [upto]
theorem upto_end (n : Nat) (F : Nat → Bool) : upto n F n = (List.range n).map F :=
  List.map_congr_left (fun i hi => by rw [if_pos (List.mem_range.1 hi)])
theorem upto_len (n : Nat) (F : Nat → Bool) (k : Nat) : (upto n F k).length = n := by simp [upto]
theorem upto_false {n : Nat} {F : Nat → Bool} {k : Nat} (h : F k = false) : upto n F (k + 1) = upto n F k := by
  refine List.map_congr_left (fun i _ => ?_)
  by_cases e : i = k
  · subst e; simp [h]
  · by_cases h1 : i < k
    · rw [if_pos h1, if_pos (by omega)]
    · rw [if_neg h1, if_neg (by omega)]
theorem upto_set {n : Nat} {F : Nat → Bool} {k : Nat} {b : Bool} (h : F k = b) : bcells (upto n F (k + 1)) = (bcells (upto n F k)).set k (.bool b) := by
  apply List.ext_getElem
  · simp [bcells, upto]
  · intro i h1 h2
    simp only [bcells, upto, List.getElem_map, List.getElem_range, List.getElem_set]
    by_cases e : k = i
    · subst e; simp [h]
    · rw [if_neg e]
      by_cases h1 : i < k
      · rw [if_pos h1, if_pos (by omega)]
      · rw [if_neg h1, if_neg (by omega)]
theorem upto_yes (n : Nat) : upto n (fun _ => true) n = yesL n := by rw [upto_end]; apply List.ext_getElem <;> simp [yesL]
/-- What a round of a loop that fills a row of its own has and may do. -/
structure Fill (w wr : World) (g n : Nat) (F : Nat → Bool) (k : Nat) : Prop where
  own : wr.ownsRow w.heap.size 4 1 (.slice (some ⟨g, 0, none⟩) n n) n (bcells (upto n F k))
  bel : Below w.heap.size w wr
theorem Fill.cell {w wr : World} {g n : Nat} {F : Nat → Bool} {k : Nat} (h : Fill w wr g n F k) (hk : k < n) : ∃ u, wr.cell? ⟨g, k, none⟩ = some u ∧ wr.frozen? ⟨g, k, none⟩ = false := by
  have hcl := h.own.cellAt k (by omega)
  rw [List.getElem?_eq_getElem (by rw [bcells_len, upto_len]; omega)] at hcl
  exact ⟨_, hcl, h.own.frozenAt k⟩
theorem Fill.skip {w wr : World} {g n : Nat} {F : Nat → Bool} {k : Nat} (h : Fill w wr g n F k) (hf : F k = false) : Fill w wr g n F (k + 1) := ⟨by rw [upto_false hf]; exact h.own, h.bel⟩
theorem Fill.lt {w wr : World} {g n : Nat} {F : Nat → Bool} {k : Nat} (h : Fill w wr g n F k) : w.heap.size ≤ g ∧ g < wr.heap.size := h.own.lt g (by simp [Value.ownBlock])
theorem Fill.put {w wr : World} {g n : Nat} {F : Nat → Bool} {k : Nat} (h : Fill w wr g n F k) {b : Bool} (hf : F k = b) : Fill w (wr.setCell ⟨g, k, none⟩ (.bool b)) g n F (k + 1) :=
  ⟨by rw [upto_set hf]; exact (h.own.stored k (.bool b)).1, h.bel.trans ((Tch.of_grown (h.own.stored k (.bool b)).2).below h.bel.size (fun j hj e => by cases e; have := h.lt; omega))⟩
theorem Fill.drew {w wr : World} {g n : Nat} {F : Nat → Bool} {k : Nat} (h : Fill w wr g n F k) : Fill w wr.drew g n F k := ⟨h.own, ⟨h.bel.os, h.bel.tape, h.bel.output, h.bel.size, h.bel.block⟩⟩
theorem ucells_at {l : List Int} {i : Nat} (h : i < l.length) : (ucells l)[i]? = some (.int .u64 (l.getD i 0)) := by simp [ucells, List.getD, h]
theorem sliceSets : SliceT Tryd.prog 33 41 1 8 :=
  SliceT.mk (z := .int .u64 0) Tryd.underlying33 (by kernel_rfl) (by decide) (by decide)
theorem sliceRows : SliceT Tryd.prog 75 73 1 24 :=
  SliceT.mk (z := .slice none 0 0) Tryd.underlying75 (by kernel_rfl) (by decide) (by decide)
theorem Sl.drew {w : World} {B size n c : Nat} {A : Option Addr} {xs : List Value} (h : Sl w B size A n c xs) : Sl w.drew B size A n c xs := { h with rd := h.rd }
theorem ucells_append (l r : List Int) : ucells (l ++ r) = ucells l ++ ucells r := by simp [ucells]
theorem ucells_len (l : List Int) : (ucells l).length = l.length := by simp [ucells]
theorem ucells_one (l : List Int) : ∀ u ∈ ucells l, u.oneCell' = true := by
  intro u hu
  obtain ⟨b, _, rfl⟩ := List.mem_map.1 hu
  rfl
/-- Rows of bools, each a row of its own, made since w. -/
def Grid (w w' : World) (v : Value) (R : List (List Bool)) : Prop :=
  ∃ vs : List Value, w'.ownsRow w.heap.size 73 1 v R.length vs ∧ (∀ (j : Nat) (r : List Bool), R[j]? = some r → ∃ u, vs[j]? = some u ∧ w'.ownsRow w.heap.size 4 1 u r.length (bcells r)) ∧ Below w.heap.size w w'
def GridPost (w : World) (R : List (List Bool)) (en : Ending) (w' : World) : Prop := ∃ v, en = .returned v ∧ Grid w w' v R
theorem Grid.base {w w0 w' : World} {v : Value} {R : List (List Bool)} (h : Grid w0 w' v R) (hb : Below w.heap.size w w0) : Grid w w' v R := by
  obtain ⟨vs, h1, h2, h3⟩ := h
  exact ⟨vs, own_base h1 hb.size, fun j r hj => by obtain ⟨u, hu, ho⟩ := h2 j r hj; exact ⟨u, hu, own_base ho hb.size⟩, hb.trans (h3.mono hb.size)⟩
theorem Grid.nil (w : World) : Grid w w (.slice none 0 0) [] := ⟨[], World.ownsRow_nil w _ _ _, by simp, Below.refl _ _⟩
theorem Grid.below {w w1 w2 : World} {v : Value} {R : List (List Bool)} (h : Grid w w1 v R) (hb : Below w1.heap.size w1 w2) : Grid w w2 v R := by
  obtain ⟨vs, h1, h2, h3⟩ := h
  exact ⟨vs, own_below h1 hb, fun j r hj => by obtain ⟨u, hu, ho⟩ := h2 j r hj; exact ⟨u, hu, own_below ho hb⟩, h3.trans (hb.mono h3.size)⟩
/-- A row is read. -/
theorem Grid.row {w w1 : World} {v : Value} {R : List (List Bool)} (h : Grid w w1 v R) {j : Nat} {r : List Bool} (hj : R[j]? = some r) :
    ∃ b o A c n cap, v = .slice (some ⟨b, o, none⟩) n cap ∧ n = R.length ∧ w1.cell? ⟨b, o + j, none⟩ = some (.slice A r.length c) ∧ Sl w1 w1.heap.size 1 A r.length c (bcells r) := by
  obtain ⟨vs, h1, h2, h3⟩ := h
  obtain ⟨u, hu, ho⟩ := h2 j r hj
  obtain ⟨A, c, rfl, hs⟩ := own_sl ho
  obtain ⟨A0, c0, rfl, hs0⟩ := own_sl h1
  obtain ⟨b, o, rfl, _, hc⟩ := hs0.rd.at_ hu
  exact ⟨b, o, A, c, _, c0, rfl, rfl, hc, hs⟩
/-- A row more. -/
theorem Grid.push {w w1 w2 : World} {v v' u : Value} {R : List (List Bool)} {r : List Bool} (h : Grid w w1 v R) (hu : w1.ownsRow w.heap.size 4 1 u r.length (bcells r)) {vs : List Value}
    (hv : w1.ownsRow w.heap.size 73 1 v R.length vs) (hown : w2.ownsRow w.heap.size 73 1 v' (R.length + 1) (vs ++ [u])) (ht : Tch (fun k => v.ownBlock = some k) w1 w2)
    (hvs : ∀ (j : Nat) (r : List Bool), R[j]? = some r → ∃ u, vs[j]? = some u ∧ w1.ownsRow w.heap.size 4 1 u r.length (bcells r)) : Grid w w2 v' (R ++ [r]) := by
  have hb := h.choose_spec.2.2
  have hlen : vs.length = R.length := by rw [hv.1]; simp
  have hkeep : ∀ u' (n : Nat) xs, w1.ownsRow w.heap.size 4 1 u' n xs → w2.ownsRow w.heap.size 4 1 u' n xs := fun u' n xs ho =>
    own_tch ho ht (fun g hg hg' => own_ne ho hv (by decide) g hg hg')
  refine ⟨vs ++ [u], by simpa using hown, fun j r' hj => ?_, hb.trans (ht.below hb.size (fun g hg h => by have := (hv.lt g h).1; omega))⟩
  by_cases hlt : j < R.length
  · rw [List.getElem?_append_left hlt] at hj
    obtain ⟨u', hu', ho⟩ := hvs j r' hj
    exact ⟨u', by rw [List.getElem?_append_left (by omega)]; exact hu', hkeep _ _ _ ho⟩
  · have hj' : j = R.length := by
      have := (List.getElem?_eq_some_iff.1 hj).1
      simp at this; omega
    subst hj'
    rw [List.getElem?_append_right (Nat.le_refl _)] at hj
    simp at hj
    subst hj
    exact ⟨u, by rw [List.getElem?_append_right (by omega), hlen]; simp, hkeep _ _ _ hu⟩
theorem below_undrew {B : Nat} {w w' : World} (h : Below B w.drew w') : Below B w w' := ⟨h.os, h.tape, h.output, h.size, h.block⟩
theorem Grid.form {w w1 : World} {v : Value} {R : List (List Bool)} (h : Grid w w1 v R) (hR : 0 < R.length) : ∃ g cap, v = .slice (some ⟨g, 0, none⟩) R.length cap := by
  obtain ⟨vs, h1, _⟩ := h
  obtain ⟨g, cap, hv, _⟩ := own_form h1 hR
  exact ⟨g, cap, hv⟩
theorem Grid.cellAt {w w1 : World} {g n cap : Nat} {R : List (List Bool)} (h : Grid w w1 (.slice (some ⟨g, 0, none⟩) n cap) R) {j : Nat} {r : List Bool} (hj : R[j]? = some r) :
    ∃ A c, w1.cell? ⟨g, j, none⟩ = some (.slice A r.length c) ∧ Sl w1 w1.heap.size 1 A r.length c (bcells r) := by
  obtain ⟨vs, h1, h2, h3⟩ := h
  obtain ⟨u, hu, ho⟩ := h2 j r hj
  have hc0 := h1.cells (g := g) rfl j u hu
  have hadd : (⟨g, 0, none⟩ : Addr).add j = ⟨g, j, none⟩ := by
    unfold Addr.add
    split
    · rename_i h; subst h; rfl
    · simp
  rw [hadd] at hc0
  obtain ⟨A, c, rfl, hs⟩ := own_sl ho
  exact ⟨A, c, hc0, hs⟩
theorem grid_step {w3 w4 w5 w6 : World} {u8 v6 : Value} {R : List (List Bool)} {vs : List Value} {r : List Bool} {A5 : Option Addr} {c5 N : Nat} (hG : Grid w3 w4 u8 R) (hv4 : w4.ownsRow w3.heap.size 73 1 u8 R.length vs)
    (hvs4 : ∀ (j : Nat) (r : List Bool), R[j]? = some r → ∃ u, vs[j]? = some u ∧ w4.ownsRow w3.heap.size 4 1 u r.length (bcells r)) (hb5 : Below w4.drew.heap.size w4.drew w5)
    (hown5 : w5.ownsRow w4.drew.heap.size 4 1 (.slice A5 N c5) N (bcells r)) (hr : r.length = N) (hown6 : w6.ownsRow w3.heap.size 73 1 v6 (R.length + 1) (vs ++ [.slice A5 N c5]))
    (ht6 : Tch (fun k => u8.ownBlock = some k) (w5.alloc (.cells #[.slice A5 N c5] 73)) w6) : Grid w3 w6 v6 (R ++ [r]) := by
  have hb5' : Below w4.heap.size w4 w5 := below_undrew hb5
  have hG5 := hG.below hb5'
  subst hr
  exact hG5.push (own_base hown5 hG.choose_spec.2.2.size) (own_below hv4 hb5') hown6 (Tch.trans ((Tch.refl _ w5).alloc _) ht6 (fun _ _ h => h))
    (fun j r' hj => by obtain ⟨u, hu, ho⟩ := hvs4 j r' hj; exact ⟨u, hu, own_below ho hb5'⟩)
end Go.Proofs.YtamhjgkigjpbhaaDoor
