/- Sets that are not there: mate, And, Or, Minus answer none; Same, Len of any two. -/
import Derived.Test.YtikhlcdgibnolaaDoorBw4
import Derived.Deep.QuietTactic
import Derived.BigQuiet
namespace Go.Proofs.YtikhlcdgibnolaaDoor
open Go.RowKit

/-- Nobody, in memory that has only grown. -/
def NoSet (w : World) (e : Ending) (w' : World) : Prop := e = .returned (.pointer none) ∧ Below w.heap.size w w'
set_option maxHeartbeats 400000 in
theorem bmadeNil_any (w : World) : Calls Tryd.prog 40 #[.pointer none] w fun e w' => e = .returned (.bool false) ∧ w' = w := by
  go_enter Tryd.func40, Tryd.ntmps40
  go_wp2
  go_ret
  exact ⟨rfl, rfl⟩
set_option maxHeartbeats 400000 in
theorem bmadeZero_any (S : Nat) (w : World) (h : w.cell? ⟨S, 1, none⟩ = some (.slice none 0 0)) : Calls Tryd.prog 40 #[.pointer (some ⟨S, 0, none⟩)] w fun e w' => e = .returned (.bool false) ∧ w' = w := by
  have hnil := neq_nil (P := Tryd.prog) w 57 22 none 0 0 Tryd.underlying57
  go_enter Tryd.func40, Tryd.ntmps40
  go_wp2
  go_ret
  exact ⟨rfl, rfl⟩
theorem drew1_below {w : World} : Below w.heap.size w w.drew := ⟨rfl, rfl, rfl, Nat.le_refl _, fun _ _ => rfl⟩
theorem drew_below {w : World} {m : Nat} : Below w.heap.size w (w.drewN m) := ⟨rfl, rfl, rfl, Nat.le_refl _, fun _ _ => rfl⟩
set_option maxHeartbeats 1000000 in
/-- The first is not made. -/
theorem bmateNo1_any (p p2 : Option Addr) (w : World) (h : ∀ w', Below w.heap.size w w' → Calls Tryd.prog 40 #[.pointer p] w' fun e w'' => e = .returned (.bool false) ∧ w'' = w') : Calls Tryd.prog 38 #[.pointer p, .pointer p2] w (NoSet w) := by
  have HH := Lib.hid h
  clear h
  go_enter Tryd.func38, Tryd.ntmps38
  go_wp2
  go_quiet ((go_at_call 40; exact Calls.quiet_of_same (HH.out _ drew_below)))
  go_wp2
  go_ret
  exact ⟨rfl, drew_below⟩
set_option maxHeartbeats 1000000 in
/-- The first is made, the second is not. -/
theorem bmateNo2_any (S : Nat) (p2 : Option Addr) (w : World) (h : ∀ w', Below w.heap.size w w' → Calls Tryd.prog 40 #[.pointer (some ⟨S, 0, none⟩)] w' fun e w'' => e = .returned (.bool true) ∧ w'' = w')
    (h2 : ∀ w', Below w.heap.size w w' → Calls Tryd.prog 40 #[.pointer p2] w' fun e w'' => e = .returned (.bool false) ∧ w'' = w') : Calls Tryd.prog 38 #[.pointer (some ⟨S, 0, none⟩), .pointer p2] w (NoSet w) := by
  have HH := Lib.hid h
  have HH2 := Lib.hid h2
  clear h h2
  go_enter Tryd.func38, Tryd.ntmps38
  go_wp2
  refine wp_region_held_drew (S := fun w' => True) (by kernel_rfl) trivial (fun hS => ?_)
  refine wpAnyH_takeD (i := 0) (v := ?_) rfl (by kernel_rfl) (by kernel_rfl) (by kernel_rfl) (fun _ _ _ h => h) (Or.inl ⟨by kernel_rfl, ?_⟩) hS ?_
  rotate_left 1
  · (intro w' hSw; (try dsimp only at hSw); go_simp; try (with_reducible rfl))
  try simp only [Act.put, List.setIfInBounds_toArray, List.set_cons_zero, List.set_cons_succ]
  refine wpAnyH_oneD (i := 1) rfl (by kernel_rfl) (fun K hK => ?_)
  go_simp
  refine Calls.mono (HH.out _ drew1_below) ?_
  rintro e _ ⟨rfl, rfl⟩
  go_wp2_with fail
  refine hK.out _ _ trivial (fun hS => ?_)
  clear hK
  try simp only [Act.put, List.setIfInBounds_toArray, List.set_cons_zero, List.set_cons_succ]
  refine wpAnyH_takeD (i := 2) (v := ?_) rfl (by kernel_rfl) (by kernel_rfl) (by kernel_rfl) (fun _ _ _ h => h) (Or.inl ⟨by kernel_rfl, ?_⟩) hS ?_
  rotate_left 1
  · (intro w' hSw; (try dsimp only at hSw); go_simp; try (with_reducible rfl))
  try simp only [Act.put, List.setIfInBounds_toArray, List.set_cons_zero, List.set_cons_succ]
  refine wpAnyH_takeD (i := 3) (v := ?_) rfl (by kernel_rfl) (by kernel_rfl) (by kernel_rfl) (fun _ _ _ h => h) (Or.inl ⟨by kernel_rfl, ?_⟩) hS ?_
  rotate_left 1
  · (intro w' hSw; (try dsimp only at hSw); go_simp; try (with_reducible rfl))
  try simp only [Act.put, List.setIfInBounds_toArray, List.set_cons_zero, List.set_cons_succ]
  refine wpAnyH_takeD (i := 4) (v := ?_) rfl (by kernel_rfl) (by kernel_rfl) (by kernel_rfl) (fun _ _ _ h => h) (Or.inl ⟨by kernel_rfl, ?_⟩) hS ?_
  rotate_left 1
  · (intro w' hSw; (try dsimp only at hSw); go_simp; try (with_reducible rfl))
  try simp only [Act.put, List.setIfInBounds_toArray, List.set_cons_zero, List.set_cons_succ]
  refine wpAnyH_oneD (i := 5) rfl (by kernel_rfl) (fun K hK => ?_)
  rw [if_pos (by kernel_rfl)]
  go_simp
  refine Calls.mono (HH2.out _ drew1_below) ?_
  rintro e _ ⟨rfl, rfl⟩
  go_wp2_with fail
  refine hK.out _ _ trivial (fun hS => ?_)
  clear hK
  try simp only [Act.put, List.setIfInBounds_toArray, List.set_cons_zero, List.set_cons_succ]
  refine wpAnyH_takeD (i := 6) (v := ?_) rfl (by kernel_rfl) (by kernel_rfl) (by kernel_rfl) (fun _ _ _ h => h) (Or.inl ⟨by kernel_rfl, ?_⟩) hS ?_
  rotate_left 1
  · (intro w' hSw; (try dsimp only at hSw); go_simp; try (with_reducible rfl))
  try simp only [Act.put, List.setIfInBounds_toArray, List.set_cons_zero, List.set_cons_succ]
  refine wpAnyH_takeD (i := 7) (v := ?_) rfl (by kernel_rfl) (by kernel_rfl) (by kernel_rfl) (fun _ _ _ h => h) (Or.inl ⟨by kernel_rfl, ?_⟩) hS ?_
  rotate_left 1
  · (intro w' hSw; (try dsimp only at hSw); go_simp; try (with_reducible rfl))
  try simp only [Act.put, List.setIfInBounds_toArray, List.set_cons_zero, List.set_cons_succ]
  refine wpAnyH_takeD (i := 8) (v := ?_) rfl (by kernel_rfl) (by kernel_rfl) (by kernel_rfl) (fun _ _ _ h => h) (Or.inl ⟨by kernel_rfl, ?_⟩) hS ?_
  rotate_left 1
  · (intro w' hSw; (try dsimp only at hSw); go_simp; try (with_reducible rfl))
  try simp only [Act.put, List.setIfInBounds_toArray, List.set_cons_zero, List.set_cons_succ]
  refine wpAnyH_takeD (i := 9) (v := undef) rfl (by kernel_rfl) (by kernel_rfl) (by kernel_rfl) (fun _ _ _ h => h) (Or.inr ⟨by kernel_rfl, rfl⟩) hS ?_
  try simp only [Act.put, List.setIfInBounds_toArray, List.set_cons_zero, List.set_cons_succ]
  refine wpAnyH_takeD (i := 10) (v := undef) rfl (by kernel_rfl) (by kernel_rfl) (by kernel_rfl) (fun _ _ _ h => h) (Or.inr ⟨by kernel_rfl, rfl⟩) hS ?_
  try simp only [Act.put, List.setIfInBounds_toArray, List.set_cons_zero, List.set_cons_succ]
  refine wpAnyH_takeD (i := 11) (v := undef) rfl (by kernel_rfl) (by kernel_rfl) (by kernel_rfl) (fun _ _ _ h => h) (Or.inr ⟨by kernel_rfl, rfl⟩) hS ?_
  try simp only [Act.put, List.setIfInBounds_toArray, List.set_cons_zero, List.set_cons_succ]
  refine wpAnyH_takeD (i := 12) (v := undef) rfl (by kernel_rfl) (by kernel_rfl) (by kernel_rfl) (fun _ _ _ h => h) (Or.inr ⟨by kernel_rfl, rfl⟩) hS ?_
  try simp only [Act.put, List.setIfInBounds_toArray, List.set_cons_zero, List.set_cons_succ]
  refine wpAnyH_takeD (i := 13) (v := undef) rfl (by kernel_rfl) (by kernel_rfl) (by kernel_rfl) (fun _ _ _ h => h) (Or.inr ⟨by kernel_rfl, rfl⟩) hS ?_
  try simp only [Act.put, List.setIfInBounds_toArray, List.set_cons_zero, List.set_cons_succ]
  refine wpAnyH_takeD (i := 14) (v := undef) rfl (by kernel_rfl) (by kernel_rfl) (by kernel_rfl) (fun _ _ _ h => h) (Or.inr ⟨by kernel_rfl, rfl⟩) hS ?_
  try simp only [Act.put, List.setIfInBounds_toArray, List.set_cons_zero, List.set_cons_succ]
  refine wpAnyH_takeD (i := 15) (v := undef) rfl (by kernel_rfl) (by kernel_rfl) (by kernel_rfl) (fun _ _ _ h => h) (Or.inr ⟨by kernel_rfl, rfl⟩) hS ?_
  try simp only [Act.put, List.setIfInBounds_toArray, List.set_cons_zero, List.set_cons_succ]
  refine wpAnyH_takeD (i := 16) (v := undef) rfl (by kernel_rfl) (by kernel_rfl) (by kernel_rfl) (fun _ _ _ h => h) (Or.inr ⟨by kernel_rfl, rfl⟩) hS ?_
  try simp only [Act.put, List.setIfInBounds_toArray, List.set_cons_zero, List.set_cons_succ]
  refine wpAnyH_takeD (i := 17) (v := undef) rfl (by kernel_rfl) (by kernel_rfl) (by kernel_rfl) (fun _ _ _ h => h) (Or.inr ⟨by kernel_rfl, rfl⟩) hS ?_
  try simp only [Act.put, List.setIfInBounds_toArray, List.set_cons_zero, List.set_cons_succ]
  refine wpAnyH_takeD (i := 18) (v := ?_) rfl (by kernel_rfl) (by kernel_rfl) (by kernel_rfl) (fun _ _ _ h => h) (Or.inl ⟨by kernel_rfl, ?_⟩) hS ?_
  rotate_left 1
  · (intro w' hSw; (try dsimp only at hSw); go_simp; try (with_reducible rfl))
  try simp only [Act.put, List.setIfInBounds_toArray, List.set_cons_zero, List.set_cons_succ]
  refine wpAnyH_done (by kernel_rfl) ?_ _
  go_wp2
  go_ret
  exact ⟨rfl, drew1_below⟩
set_option maxHeartbeats 1000000 in
/-- Both are made, of two lengths. -/
theorem bmateNo3_any (S q n : Nat) (W : List Nat) (S2 q2 m : Nat) (V : List Nat) (w : World) (h : BSet S q n W w) (h2 : BSet S2 q2 m V w) (hne : n ≠ m) : Calls Tryd.prog 38 #[.pointer (some ⟨S, 0, none⟩), .pointer (some ⟨S2, 0, none⟩)] w (NoSet w) := by
  have HH := Lib.hid (fun (w' : World) (hb : Below w.heap.size w w') => bmade_any S q n W w' (h.below hb))
  have HH2 := Lib.hid (fun (w' : World) (hb : Below w.heap.size w w') => bmade_any S2 q2 m V w' (h2.below hb))
  obtain ⟨⟨c0, c1⟩, _, hS⟩ := blk2 h.1
  obtain ⟨⟨d0, d1⟩, _, hS2⟩ := blk2 h2.1
  have hnn : ((n : Int) != (m : Int)) = true := by simp; omega
  clear h h2 hne
  go_enter Tryd.func38, Tryd.ntmps38
  go_wp2
  refine wp_region_held_drew (S := fun w' => w'.cell? ⟨S, 0, none⟩ = some (.int .i64 (n : Int)) ∧ w'.cell? ⟨S2, 0, none⟩ = some (.int .i64 (m : Int))) (by kernel_rfl) ⟨c0, d0⟩ (fun hS => ?_)
  refine wpAnyH_takeD (i := 0) (v := ?_) rfl (by kernel_rfl) (by kernel_rfl) (by kernel_rfl) (fun _ _ _ h => h) (Or.inl ⟨by kernel_rfl, ?_⟩) hS ?_
  rotate_left 1
  · (intro w' hSw; (try dsimp only at hSw); go_simp; try (with_reducible rfl))
  try simp only [Act.put, List.setIfInBounds_toArray, List.set_cons_zero, List.set_cons_succ]
  refine wpAnyH_oneD (i := 1) rfl (by kernel_rfl) (fun K hK => ?_)
  go_simp
  refine Calls.mono (HH.out _ drew1_below) ?_
  rintro e _ ⟨rfl, rfl⟩
  go_wp2_with fail
  refine hK.out _ _ ⟨c0, d0⟩ (fun hS => ?_)
  clear hK
  try simp only [Act.put, List.setIfInBounds_toArray, List.set_cons_zero, List.set_cons_succ]
  refine wpAnyH_takeD (i := 2) (v := ?_) rfl (by kernel_rfl) (by kernel_rfl) (by kernel_rfl) (fun _ _ _ h => h) (Or.inl ⟨by kernel_rfl, ?_⟩) hS ?_
  rotate_left 1
  · (intro w' hSw; (try dsimp only at hSw); go_simp; try (with_reducible rfl))
  try simp only [Act.put, List.setIfInBounds_toArray, List.set_cons_zero, List.set_cons_succ]
  refine wpAnyH_takeD (i := 3) (v := ?_) rfl (by kernel_rfl) (by kernel_rfl) (by kernel_rfl) (fun _ _ _ h => h) (Or.inl ⟨by kernel_rfl, ?_⟩) hS ?_
  rotate_left 1
  · (intro w' hSw; (try dsimp only at hSw); go_simp; try (with_reducible rfl))
  try simp only [Act.put, List.setIfInBounds_toArray, List.set_cons_zero, List.set_cons_succ]
  refine wpAnyH_takeD (i := 4) (v := ?_) rfl (by kernel_rfl) (by kernel_rfl) (by kernel_rfl) (fun _ _ _ h => h) (Or.inl ⟨by kernel_rfl, ?_⟩) hS ?_
  rotate_left 1
  · (intro w' hSw; (try dsimp only at hSw); go_simp; try (with_reducible rfl))
  try simp only [Act.put, List.setIfInBounds_toArray, List.set_cons_zero, List.set_cons_succ]
  refine wpAnyH_oneD (i := 5) rfl (by kernel_rfl) (fun K hK => ?_)
  rw [if_pos (by kernel_rfl)]
  go_simp
  refine Calls.mono (HH2.out _ drew1_below) ?_
  rintro e _ ⟨rfl, rfl⟩
  go_wp2_with fail
  refine hK.out _ _ ⟨c0, d0⟩ (fun hS => ?_)
  clear hK
  try simp only [Act.put, List.setIfInBounds_toArray, List.set_cons_zero, List.set_cons_succ]
  refine wpAnyH_takeD (i := 6) (v := ?_) rfl (by kernel_rfl) (by kernel_rfl) (by kernel_rfl) (fun _ _ _ h => h) (Or.inl ⟨by kernel_rfl, ?_⟩) hS ?_
  rotate_left 1
  · (intro w' hSw; (try dsimp only at hSw); go_simp; try (with_reducible rfl))
  try simp only [Act.put, List.setIfInBounds_toArray, List.set_cons_zero, List.set_cons_succ]
  refine wpAnyH_takeD (i := 7) (v := ?_) rfl (by kernel_rfl) (by kernel_rfl) (by kernel_rfl) (fun _ _ _ h => h) (Or.inl ⟨by kernel_rfl, ?_⟩) hS ?_
  rotate_left 1
  · (intro w' hSw; (try dsimp only at hSw); go_simp; try (with_reducible rfl))
  try simp only [Act.put, List.setIfInBounds_toArray, List.set_cons_zero, List.set_cons_succ]
  refine wpAnyH_takeD (i := 8) (v := ?_) rfl (by kernel_rfl) (by kernel_rfl) (by kernel_rfl) (fun _ _ _ h => h) (Or.inl ⟨by kernel_rfl, ?_⟩) hS ?_
  rotate_left 1
  · (intro w' hSw; (try dsimp only at hSw); go_simp; try (with_reducible rfl))
  try simp only [Act.put, List.setIfInBounds_toArray, List.set_cons_zero, List.set_cons_succ]
  refine wpAnyH_takeD (i := 9) (v := ?_) rfl (by kernel_rfl) (by kernel_rfl) (by kernel_rfl) (fun _ _ _ h => h) (Or.inl ⟨by kernel_rfl, ?_⟩) hS ?_
  rotate_left 1
  · (intro w' hSw; (try dsimp only at hSw); go_simp; try (with_reducible rfl))
  try simp only [Act.put, List.setIfInBounds_toArray, List.set_cons_zero, List.set_cons_succ]
  refine wpAnyH_takeD (i := 10) (v := ?_) rfl (by kernel_rfl) (by kernel_rfl) (by kernel_rfl) (fun _ _ _ h => h) (Or.inl ⟨by kernel_rfl, ?_⟩) hS ?_
  rotate_left 1
  · (intro w' hSw; (try dsimp only at hSw); go_simp; try (with_reducible rfl))
  try simp only [Act.put, List.setIfInBounds_toArray, List.set_cons_zero, List.set_cons_succ]
  refine wpAnyH_takeD (i := 11) (v := ?_) rfl (by kernel_rfl) (by kernel_rfl) (by kernel_rfl) (fun _ _ _ h => h) (Or.inl ⟨by kernel_rfl, ?_⟩) hS ?_
  rotate_left 1
  · (intro w' hSw; (try dsimp only at hSw); go_simp; try (with_reducible rfl))
  try simp only [Act.put, List.setIfInBounds_toArray, List.set_cons_zero, List.set_cons_succ]
  refine wpAnyH_takeD (i := 12) (v := ?_) rfl (by kernel_rfl) (by kernel_rfl) (by kernel_rfl) (fun _ _ _ h => h) (Or.inl ⟨by kernel_rfl, ?_⟩) hS ?_
  rotate_left 1
  · (intro w' hSw; (try dsimp only at hSw); go_simp; try (with_reducible rfl))
  try simp only [Act.put, List.setIfInBounds_toArray, List.set_cons_zero, List.set_cons_succ]
  refine wpAnyH_takeD (i := 13) (v := ?_) rfl (by kernel_rfl) (by kernel_rfl) (by kernel_rfl) (fun _ _ _ h => h) (Or.inl ⟨by kernel_rfl, ?_⟩) hS ?_
  rotate_left 1
  · (intro w' hSw; (try dsimp only at hSw); go_simp; try (with_reducible rfl))
  try simp only [Act.put, List.setIfInBounds_toArray, List.set_cons_zero, List.set_cons_succ]
  refine wpAnyH_takeD (i := 14) (v := ?_) rfl (by kernel_rfl) (by kernel_rfl) (by kernel_rfl) (fun _ _ _ h => h) (Or.inl ⟨by kernel_rfl, ?_⟩) hS ?_
  rotate_left 1
  · (intro w' hSw; (try dsimp only at hSw); go_simp; try (with_reducible rfl))
  try simp only [Act.put, List.setIfInBounds_toArray, List.set_cons_zero, List.set_cons_succ]
  refine wpAnyH_takeD (i := 15) (v := ?_) rfl (by kernel_rfl) (by kernel_rfl) (by kernel_rfl) (fun _ _ _ h => h) (Or.inl ⟨by kernel_rfl, ?_⟩) hS ?_
  rotate_left 1
  · (intro w' hSw; (try dsimp only at hSw); go_simp; try (with_reducible rfl))
  try simp only [Act.put, List.setIfInBounds_toArray, List.set_cons_zero, List.set_cons_succ]
  refine wpAnyH_takeD (i := 16) (v := ?_) rfl (by kernel_rfl) (by kernel_rfl) (by kernel_rfl) (fun _ _ _ h => h) (Or.inl ⟨by kernel_rfl, ?_⟩) hS ?_
  rotate_left 1
  · (intro w' hSw; (try dsimp only at hSw); go_simp; try (with_reducible rfl))
  try simp only [Act.put, List.setIfInBounds_toArray, List.set_cons_zero, List.set_cons_succ]
  refine wpAnyH_takeD (i := 17) (v := ?_) rfl (by kernel_rfl) (by kernel_rfl) (by kernel_rfl) (fun _ _ _ h => h) (Or.inl ⟨by kernel_rfl, ?_⟩) hS ?_
  rotate_left 1
  · (intro w' hSw; (try dsimp only at hSw); go_simp; try (with_reducible rfl))
  try simp only [Act.put, List.setIfInBounds_toArray, List.set_cons_zero, List.set_cons_succ]
  refine wpAnyH_takeD (i := 18) (v := ?_) rfl (by kernel_rfl) (by kernel_rfl) (by kernel_rfl) (fun _ _ _ h => h) (Or.inl ⟨by kernel_rfl, ?_⟩) hS ?_
  rotate_left 1
  · (intro w' hSw; (try dsimp only at hSw); go_simp; try (with_reducible rfl))
  try simp only [Act.put, List.setIfInBounds_toArray, List.set_cons_zero, List.set_cons_succ]
  refine wpAnyH_done (by kernel_rfl) ?_ _
  go_wp2
  go_ret
  exact ⟨rfl, drew1_below⟩
set_option maxHeartbeats 400000 in
theorem bandNo_any (p p2 : Option Addr) (w : World) (h : Calls Tryd.prog 38 #[.pointer p, .pointer p2] w (NoSet w)) : Calls Tryd.prog 27 #[.pointer p, .pointer p2] w (NoSet w) := by
  have HH := Lib.hid h
  clear h
  go_enter Tryd.func27, Tryd.ntmps27
  go_wp2_with fail
  refine Calls.mono HH.out ?_
  rintro e w1 ⟨rfl, hb⟩
  go_wp2
  go_ret
  exact ⟨rfl, hb⟩
set_option maxHeartbeats 400000 in
theorem borNo_any (p p2 : Option Addr) (w : World) (h : Calls Tryd.prog 38 #[.pointer p, .pointer p2] w (NoSet w)) : Calls Tryd.prog 28 #[.pointer p, .pointer p2] w (NoSet w) := by
  have HH := Lib.hid h
  clear h
  go_enter Tryd.func28, Tryd.ntmps28
  go_wp2_with fail
  refine Calls.mono HH.out ?_
  rintro e w1 ⟨rfl, hb⟩
  go_wp2
  go_ret
  exact ⟨rfl, hb⟩
set_option maxHeartbeats 400000 in
theorem bminusNo_any (p p2 : Option Addr) (w : World) (h : Calls Tryd.prog 38 #[.pointer p, .pointer p2] w (NoSet w)) : Calls Tryd.prog 29 #[.pointer p, .pointer p2] w (NoSet w) := by
  have HH := Lib.hid h
  clear h
  go_enter Tryd.func29, Tryd.ntmps29
  go_wp2_with fail
  refine Calls.mono HH.out ?_
  rintro e w1 ⟨rfl, hb⟩
  go_wp2
  go_ret
  exact ⟨rfl, hb⟩

/-- The length that Len tells. -/
def LenIs (p : Option Addr) (n : Nat) (w : World) : Prop := ∀ w', Below w.heap.size w w' → Calls Tryd.prog 15 #[.pointer p] w' fun e w'' => e = .returned (.int .i64 (n : Int)) ∧ w' = w''
theorem lenIs_set {S q n : Nat} {W : List Nat} {w : World} (h : BSet S q n W w) : LenIs (some ⟨S, 0, none⟩) n w := fun w' hb => blen_any S q n W w' (h.below hb)
theorem lenIs_nil (w : World) : LenIs none 0 w := fun w' _ => bnilLen_any w'
theorem LenIs.below {p : Option Addr} {n : Nat} {w w1 : World} (h : LenIs p n w) (hb : Below w.heap.size w w1) : LenIs p n w1 := fun w' hb' => h w' (hb.trans (hb'.mono hb.size))
set_option maxHeartbeats 1000000 in
/-- Same of two lengths that differ, or that are both 0. -/
theorem bsameLen_any (p p2 : Option Addr) (n m : Nat) (w : World) (h : LenIs p n w) (h2 : LenIs p2 m w) (hc : n ≠ m ∨ n = 0) (hn : n ≤ 1000000) (hm : m ≤ 1000000) : Calls Tryd.prog 30 #[.pointer p, .pointer p2] w fun e w' => e = .returned (.bool (decide (n = m))) ∧ w' = w := by
  have HL := Lib.hid (h w (Below.refl _ _))
  have HL2 := Lib.hid (h2 w (Below.refl _ _))
  clear h h2
  by_cases hne : n = m
  · have h0 : n = 0 := by omega
    subst hne
    subst h0
    clear hc
    go_enter Tryd.func30, Tryd.ntmps30
    go_wp2_with fail
    refine Calls.mono HL.out ?_
    rintro e w1 ⟨rfl, rfl⟩
    go_wp2_with fail
    refine Calls.mono HL2.out ?_
    rintro e w1 ⟨rfl, rfl⟩
    go_wp2_with fail
    refine Calls.mono HL.out ?_
    rintro e w1 ⟨rfl, rfl⟩
    go_wp2
    go_ret
    exact ⟨ret_bool (by simp), rfl⟩
  · have hnn : ((n : Int) != (m : Int)) = true := by simp; omega
    have hd : decide (n = m) = false := by simpa using hne
    have HD := Lib.hid hd
    clear hc hne hd
    go_enter Tryd.func30, Tryd.ntmps30
    go_wp2_with fail
    refine Calls.mono HL.out ?_
    rintro e w1 ⟨rfl, rfl⟩
    go_wp2_with fail
    refine Calls.mono HL2.out ?_
    rintro e w1 ⟨rfl, rfl⟩
    go_wp2
    go_ret
    exact ⟨ret_bool (by rw [HD.out]), rfl⟩
set_option maxHeartbeats 2000000 in
/-- Two sets of one length. -/
theorem bsameW_any (S q n : Nat) (W : List Nat) (S2 q2 : Nat) (V : List Nat) (w : World) (h : BSet S q n W w) (h2 : BSet S2 q2 n V w) : Calls Tryd.prog 30 #[.pointer (some ⟨S, 0, none⟩), .pointer (some ⟨S2, 0, none⟩)] w fun e w' => e = .returned (.bool (decide (W = V))) ∧ w' = w := by
  by_cases h0 : n = 0
  · have e1 : W = V := by
      have a := h.len; have b := h2.len
      rw [h0] at a b
      rw [List.eq_nil_of_length_eq_zero a, List.eq_nil_of_length_eq_zero b]
    refine (bsameLen_any _ _ n n w (lenIs_set h) (lenIs_set h2) (.inr h0) (by omega) (by omega)).mono ?_
    rintro e w' ⟨rfl, rfl⟩
    exact ⟨ret_bool (by simp [e1]), rfl⟩
  have HL := Lib.hid (blen_any S q n W w h)
  have HL2 := Lib.hid (blen_any S2 q2 n V w h2)
  have hlW : W.length ≤ 1024 := by rw [h.len]; have := h.2.2.2.2; omega
  have hlV : V.length = W.length := by rw [h.len, h2.len]
  obtain ⟨⟨c0, c1⟩, _, hS⟩ := blk2 h.1
  obtain ⟨⟨d0, d1⟩, _, hS2⟩ := blk2 h2.1
  rw [hlV] at d1
  have hnn : ((n : Int) != (n : Int)) = false := by simp
  have HA := Lib.hid (fun (j : Nat) (hj : j < W.length) => h.at_ hj)
  have HA2 := Lib.hid (fun (j : Nat) (hj : j < V.length) => h2.at_ hj)
  have HLV := Lib.hid hlV
  clear h h2 hlV
  have hn0 : ((n : Int) == 0) = false := by simpa using h0
  go_enter Tryd.func30, Tryd.ntmps30
  go_wp2_with fail
  refine Calls.mono HL.out ?_
  rintro e w1 ⟨rfl, rfl⟩
  go_wp2_with fail
  refine Calls.mono HL2.out ?_
  rintro e w1 ⟨rfl, rfl⟩
  go_wp2_with fail
  refine Calls.mono HL.out ?_
  rintro e w1 ⟨rfl, rfl⟩
  go_wp2
  go_loop [20] (fun i => ∃ k : Nat, k ≤ W.length ∧ i = .int .i64 k ∧ Hid (W.take k = V.take k)) (fun i => W.length - (intOf i).toNat)
  case atStart => exact ⟨0, by omega, rfl, Lib.hid (by simp)⟩
  case round =>
    obtain ⟨k, hk, rfl, ht⟩ := hrel
    by_cases hlt : k < W.length
    · have hltV : k < V.length := by rw [HLV.out]; exact hlt
      obtain ⟨e0, _, _⟩ := HA.out k hlt
      obtain ⟨e1, _, _⟩ := HA2.out k hltV
      have gW : W.getD k 0 = W[k] := by simp [List.getD, hlt]
      have gV : V.getD k 0 = V[k] := by simp [List.getD, hltV]
      have hs := fun (hh : W[k] = V[k]) => take_eq_snoc ht.out hlt hltV hh
      have hne := fun (hh : W[k] ≠ V[k]) => (fun (e : W = V) => hh (by subst e; rfl) : ¬ W = V)
      rw [gW] at e0
      rw [gV] at e1
      generalize W[k] = x at *
      generalize V[k] = y at *
      have HS := Lib.hid hs
      have HNE := Lib.hid hne
      clear hs hne gW gV
      have h1 : (k : Int) < (W.length : Int) := by omega
      by_cases hxy : x = y
      · subst hxy
        have hd : ((x : Int) != (x : Int)) = false := by simp
        go_wp2
        go_round
        case rel => exact ⟨k + 1, by omega, by go_num, Lib.hid (HS.out rfl)⟩
        case measure => simp [intOf]; omega
      · have hd : ((y : Int) != (x : Int)) = true := by simp; omega
        have hf : decide (W = V) = false := by simpa using HNE.out hxy
        have HF := Lib.hid hf
        clear hf hxy
        go_wp2
        go_ret
        exact ⟨ret_bool (by rw [HF.out]), rfl⟩
    · have hk' : k = W.length := by omega
      have e : W = V := by
        have h2 := ht.out
        rw [hk', List.take_length] at h2
        rw [h2, ← HLV.out, List.take_length]
      have HE := Lib.hid e
      clear e
      subst hk'
      go_wp2
      go_ret
      exact ⟨ret_bool (by simp [HE.out]), rfl⟩
end Go.Proofs.YtikhlcdgibnolaaDoor
