/- The walks of layer 6: Back, and its reference's. -/
import Derived.Test.YtamhjgkigjpbhaaDoorZbf
import Derived.Test.YtamhjgkigjpbhaaDoorMe
import Derived.Lib.SliceRun
import Derived.Deep.RegionLaw
import Derived.Deep.LoopGhost
import Derived.Test.YtamhjgkigjpbhaaDoorGr10
import Derived.Test.YtamhjgkigjpbhaaDoorGr7
import Derived.Test.YtamhjgkigjpbhaaDoorGrM
import Derived.Deep.DeepCutAuto
namespace Go.Proofs.YtamhjgkigjpbhaaDoor
open Go.RowKit

/-- From where a way leads to a goal. -/
def backG (n : Nat) (E : List (List Nd)) (goal : List Bool) : List Bool := reachG n (turnE E) (goalsG n goal)
theorem turnE_bd {K : Nat} {E : List (List Nd)} (hK : ∀ l ∈ E, l.length ≤ K) (h : E.length * K ≤ 1000000000) : ∀ l ∈ turnE E, l.length ≤ 1000000000 := by
  intro l hl
  obtain ⟨t, ht, rfl⟩ := List.getElem_of_mem hl
  have := turnTo_bd (n := E.length) hK E.length t
  have e : (turnTo E.length E E.length).getD t [] = (turnE E)[t] := by
    show (turnE E).getD t [] = _
    simp [List.getD, ht]
  rw [e] at this; omega
theorem goalsG_len (n : Nat) (goal : List Bool) : (goalsG n goal).length ≤ n := by
  rw [goalsG, List.length_map]
  exact Nat.le_trans (List.length_filter_le _ _) (by simp; omega)

section
variable (ai ae al : Option Addr) (ni ci ne ce nl cl : Nat)

set_option maxHeartbeats 1000000 in
theorem backR_any (G : Gph) (goal : List Bool) (A : Option Addr) (n c : Nat) (w : World) (B : Nat) (h : GrRd w B ai ni ci ae ne ce al nl cl G) (hs : Sl w B 1 A n c (goal.map .bool)) (hn : n = goal.length) (hB : B ≤ w.heap.size) (hi : ni ≤ 1000000000) (he : ne ≤ 65536) (hl : nl ≤ 1000000000) (hn2 : n ≤ 1000000000) (KE : Nat) (hr : ∀ l ∈ G.edges, l.length ≤ KE) (hKE : ne * KE ≤ 1000000000) (hK2 : KE ≤ 1000000000) :
    Calls Tryd.prog 65 #[.agg #[.slice ai ni ci, .slice ae ne ce, .slice al nl cl], .slice A n c] w (NewRow w 4 1 ne ((backG ne G.edges goal).map .bool) False) := by
  subst hn
  obtain ⟨w0, hw0, hb0, hz0, hx0, hx1, hx2⟩ := boxed3 w (.slice ai ni ci) (.slice ae ne ce) (.slice al nl cl) 72
  have HW0 := Lib.hid hw0
  have h' := h.below hb0 hB
  have hs' := hs.below hb0 hB
  have hzl : w.heap.size < w0.heap.size := by omega
  have L2 := h.lens.2.1
  have hr2 : ∀ l ∈ turnE G.edges, l.length ≤ 1000000000 := turnE_bd hr (by rw [← L2]; exact hKE)
  have HL2 := Lib.hid L2
  have hu : backG ne G.edges goal = reachG ne (turnE G.edges) (goalsG ne goal) := rfl
  rw [hu]
  clear hw0 hz0 h hs L2 hu
  go_enter Tryd.func65, Tryd.ntmps65
  go_wp2_with fail
  rw [← HW0.out]
  refine wp_region_held_drew (S := fun w' => w'.cell? ⟨w.heap.size, 0, none⟩ = some (.slice ai ni ci) ∧ w'.cell? ⟨w.heap.size, 1, none⟩ = some (.slice ae ne ce) ∧ w'.cell? ⟨w.heap.size, 2, none⟩ = some (.slice al nl cl)) (by kernel_rfl) ⟨hx0, hx1, hx2⟩ (fun hS => ?_)
  refine wpAnyH_takeD (i := 0) (v := ?_) rfl (by kernel_rfl) (by kernel_rfl) (by kernel_rfl) (fun _ _ _ h => h) (Or.inl ⟨by kernel_rfl, ?_⟩) hS ?_
  rotate_left 1
  · (intro w' hSw; (try dsimp only at hSw); go_simp; try (with_reducible rfl))
  try simp only [Act.put, List.setIfInBounds_toArray, List.set_cons_zero, List.set_cons_succ]
  refine wpAnyH_takeD (i := 2) (v := ?_) rfl (by kernel_rfl) (by kernel_rfl) (by kernel_rfl) (fun _ _ _ h => h) (Or.inl ⟨by kernel_rfl, ?_⟩) hS ?_
  rotate_left 1
  · (intro w' hSw; (try dsimp only at hSw); go_simp; try (with_reducible rfl))
  try simp only [Act.put, List.setIfInBounds_toArray, List.set_cons_zero, List.set_cons_succ]
  refine wpAnyH_takeD (i := 3) (v := ?_) rfl (by kernel_rfl) (by kernel_rfl) (by kernel_rfl) (fun _ _ _ h => h) (Or.inl ⟨by kernel_rfl, ?_⟩) hS ?_
  rotate_left 1
  · (intro w' hSw; (try dsimp only at hSw); go_simp; try (with_reducible rfl))
  try simp only [Act.put, List.setIfInBounds_toArray, List.set_cons_zero, List.set_cons_succ]
  refine wpAnyH_oneD (i := 1) rfl (by kernel_rfl) (fun K hK => ?_)
  go_simp
  refine ((turnR_any ai ae al ni ci ne ce nl cl G _ B (h'.below (Below.drew (Below.refl _ _)) (by omega)) (by show B ≤ w0.heap.size; omega) hi (by omega) hl KE hr hKE hK2)).mono ?_
  rintro e wA ⟨bi, mi, di, be, me, de, bl, ml, dl, rfl, hG, hb', _⟩
  have hbA : Below w0.heap.size w0 wA := below_undrew hb'
  have p0 := (hbA.cell (p := ⟨w.heap.size, 0, none⟩) hzl).trans hx0
  have p1 := (hbA.cell (p := ⟨w.heap.size, 1, none⟩) hzl).trans hx1
  have p2 := (hbA.cell (p := ⟨w.heap.size, 2, none⟩) hzl).trans hx2
  have hzA := hbA.size
  clear hb'
  go_wp2_with fail
  refine hK.out _ _ ⟨p0, p1, p2⟩ (fun hS => ?_)
  clear hK
  try simp only [Act.put, List.setIfInBounds_toArray, List.set_cons_zero, List.set_cons_succ]
  refine wpAnyH_oneD (i := 4) rfl (by kernel_rfl) (fun K hK => ?_)
  go_simp
  refine (goalsR_any ai ae al ni ci ne ce nl cl A _ c goal _ B rfl (hs'.below hbA (by omega)) (by omega) (by omega) (by omega)).mono ?_
  rintro e wB ⟨vg, rfl, hown, hb', _⟩
  obtain ⟨Ag, cg, rfl, hsg⟩ := own_sl hown
  have hbB : Below w0.heap.size w0 wB := hbA.trans (hb'.mono (by omega))
  have q0 := (hbB.cell (p := ⟨w.heap.size, 0, none⟩) hzl).trans hx0
  have q1 := (hbB.cell (p := ⟨w.heap.size, 1, none⟩) hzl).trans hx1
  have q2 := (hbB.cell (p := ⟨w.heap.size, 2, none⟩) hzl).trans hx2
  have hzB := hbB.size
  have hG2 := (hG.below hb' (Nat.le_refl _)).up (show wA.heap.size ≤ wB.heap.size by have := hb'.size; omega)
  have hs2 := hsg
  clear hb'
  go_wp2_with fail
  refine hK.out _ _ ⟨q0, q1, q2⟩ (fun hS => ?_)
  clear hK
  try simp only [Act.put, List.setIfInBounds_toArray, List.set_cons_zero, List.set_cons_succ]
  refine wpAnyH_oneD (i := 5) rfl (by kernel_rfl) (fun K hK => ?_)
  go_simp
  have hme : me = ne := by have h1 := hG2.lens.2.1; have h2 := HL2.out; simp only [turnE_len] at h1; omega
  refine (reachR_any bi be bl mi di me de ml dl ⟨G.init, turnE G.edges, G.labels⟩ (goalsG ne goal) Ag _ cg wB wB.heap.size hG2 hs2 rfl (Nat.le_refl _) (by rw [hme]; omega) (by have := goalsG_len ne goal; omega) hr2).mono ?_
  rw [hme]
  rintro e wC ⟨v, rfl, hownC, hbC, hnil⟩
  go_wp2_with fail
  have s0 := (hbC.cell (p := ⟨w.heap.size, 0, none⟩) (show w.heap.size < wB.heap.size by omega)).trans q0
  have s1 := (hbC.cell (p := ⟨w.heap.size, 1, none⟩) (show w.heap.size < wB.heap.size by omega)).trans q1
  have s2 := (hbC.cell (p := ⟨w.heap.size, 2, none⟩) (show w.heap.size < wB.heap.size by omega)).trans q2
  have HNI := Lib.hid hnil
  clear hnil
  refine hK.out _ _ ⟨s0, s1, s2⟩ (fun hS => ?_)
  clear hK
  try simp only [Act.put, List.setIfInBounds_toArray, List.set_cons_zero, List.set_cons_succ]
  refine wpAnyH_takeD (i := 6) (v := ?_) rfl (by kernel_rfl) (by kernel_rfl) (by kernel_rfl) (fun _ _ _ h => h) (Or.inl ⟨by kernel_rfl, ?_⟩) hS ?_
  rotate_left 1
  · (intro w' hSw; (try dsimp only at hSw); go_simp; try (with_reducible rfl))
  try simp only [Act.put, List.setIfInBounds_toArray, List.set_cons_zero, List.set_cons_succ]
  refine wpAnyH_done (by kernel_rfl) ?_ _
  go_wp2
  go_ret
  exact ⟨v, rfl, own_base hownC (by omega), (hb0.trans (hbB.mono (by omega))).trans (hbC.mono (by omega)), HNI.out⟩
end
end Go.Proofs.YtamhjgkigjpbhaaDoor
