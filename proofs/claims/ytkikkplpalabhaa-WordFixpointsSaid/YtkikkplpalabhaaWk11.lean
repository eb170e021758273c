/- The walks of layer 27: period, turned. -/
import Derived.Test.YtkikkplpalabhaaConcU
import Derived.Test.YtkikkplpalabhaaMd
import Derived.Test.YtkikkplpalabhaaWk10
import Derived.Test.YtkikkplpalabhaaMe
namespace Go.Proofs.Ytkikkplpalabhaa
open Go.RowKit

theorem ucells_take (l : List Int) (k : Nat) : ucells (l.take k) = (ucells l).take (k * 1) := by simp [ucells]
theorem ucells_drop (l : List Int) (k : Nat) : ucells (l.drop k) = (ucells l).drop (k * 1) := by simp [ucells]
/-- A number, and the world but for draws. -/
def SaidN (w : World) (k : Int) (en : Ending) (w' : World) : Prop := en = .returned (.int .i64 k) ∧ ∃ n, w' = w.drewN n
theorem sl2_twoU {w : World} {B size g n c n' c' t : Nat} {A A' : Option Addr} {ys zs : List Value} (hg : w.heap[g]? = some (.cells #[.slice A n c, .slice A' n' c'] t (0, 0))) (hgB : g < B) (hs : Sl w B size A n c ys) (hs' : Sl w B size A' n' c' zs) : Sl2 w B size (some ⟨g, 0, none⟩) 2 2 [ys, zs] := by
  refine ⟨[.slice A n c, .slice A' n' c'], ⟨rfl, Nat.le_refl _, by unfold maxLen; omega, by simp, .inr ⟨g, 0, rfl, hgB, fun j u hu => ?_⟩⟩, rfl, fun j xs hj => ?_⟩
  · rcases j with _ | _ | j
    · simp at hu; subst hu; rw [cell_of_row w g _ _ _ (0, 0) hg]; rfl
    · simp at hu; subst hu; rw [cell_of_row w g _ _ _ (0, 0) hg]; rfl
    · simp at hu
  · rcases j with _ | _ | j
    · simp at hj; subst hj; exact ⟨A, n, c, rfl, hs⟩
    · simp at hj; subst hj; exact ⟨A', n', c', rfl, hs'⟩
    · simp at hj
set_option maxHeartbeats 4000000 in
set_option maxRecDepth 100000 in
theorem period_any (A : Option Addr) (n c : Nat) (lo : List Int) (w : World) (B : Nat) (hs : Sl w B 1 A n c (ucells lo)) (hn : n = lo.length) (hl : n ≤ 60000) :
    Calls Try.prog 71 #[.slice A n c] w (SaidN w (periodL lo : Nat)) := by
  have hcap := hs.cap
  have hmax : c ≤ 9223372036854775807 := by have := hs.max; unfold maxLen at this; omega
  have HN := Lib.hid hn
  clear hn
  go_enter Try.func71, Try.ntmps71
  go_wp2
  go_loopw [3] (fun i wr => ∃ k m : Nat, 1 ≤ k ∧ (k ≤ n ∨ k = 1) ∧ i = .int .i64 k ∧ wr = w.drewN m ∧ Hid (∀ q, 1 ≤ q → q < k → perB lo q = false)) (fun i _ => n + 1 - (intOf i).toNat)
  case atStart => exact ⟨1, 0, by omega, .inr rfl, rfl, rfl, Lib.hid (fun q h1 h2 => by omega)⟩
  case round =>
    obtain ⟨k, m, hk1, hkn, rfl, rfl, HP⟩ := hrel
    by_cases hlt : k < n
    · have hklo : k ≤ lo.length := by rw [← HN.out]; omega
      have e1 : ((n : Int)).tmod (k : Int) = ((n % k : Nat) : Int) := by rw [Int.tmod_eq_emod_of_nonneg (by omega)]; omega
      have hk0 : ¬ (k = 0) := by omega
      by_cases hd : n % k = 0
      · have d1 : (((n % k : Nat) : Int) == 0) = true := by simp [hd]
        have hck : ¬ c = k := by omega
        have s1 := hs.drop (k := k) (by omega)
        rw [if_neg hck, ← ucells_drop] at s1
        have s2 := hs.take (k := n - k) (by omega)
        rw [← ucells_take] at s2
        have hbd : Below B w (w.drewN (m + 1)) := below_drewN (Below.refl _ _) (m + 1)
        have hEQ := equalU_any _ A (n - k) (c - k) (n - k) c (lo.drop k) (lo.take (n - k)) (w.drewN (m + 1)) B B (s1.below hbd (Nat.le_refl _)) (s2.below hbd (Nat.le_refl _)) (by rw [List.length_drop, HN.out]) (by rw [List.length_take]; have := HN.out; omega) (by omega)
        simp only [Nat.mul_one] at hEQ
        have hpb : perB lo k = decide (lo.drop k = lo.take (n - k)) := by rw [perB, ← HN.out, hd]; simp
        generalize decide (lo.drop k = lo.take (n - k)) = bq at *
        have HPB := Lib.hid hpb
        have HEQ := Lib.hid hEQ
        obtain ⟨dk, hdk⟩ : ∃ d, d = n - k := ⟨_, rfl⟩
        have e2 : IntKind.i64.wrap ((n : Int) - (k : Int)) = (dk : Int) := by rw [IntWalk.i64_in _ (by omega)]; omega
        rw [← hdk] at HEQ
        have i1 : (dk : Int) ≤ (c : Int) := by omega
        have i2 : (k : Int) ≤ (n : Int) := by omega
        have E1 := Lib.hid e1
        have E2 := Lib.hid e2
        have HDK := Lib.hid hdk
        clear hpb hEQ s1 s2 hbd hdk e1 e2
        generalize n % k = rr at *
        go_wp2_with fail
        have e1 := E1.out
        have e2 := E2.out
        have e3 := HDK.out.symm
        refine wp_region_held_drew (S := fun w' => True) (by kernel_rfl) trivial (fun hS => ?_)
        refine wpAnyH_takeD (i := 0) (v := ?_) rfl (by kernel_rfl) (by kernel_rfl) (by kernel_rfl) (fun _ _ _ h => h) (Or.inl ⟨by kernel_rfl, ?_⟩) hS ?_
        rotate_left 1
        · (intro w' hSw; (try dsimp only at hSw); go_simp; try (with_reducible rfl))
        try simp only [Act.put, List.setIfInBounds_toArray, List.set_cons_zero, List.set_cons_succ]
        refine wpAnyH_takeD (i := 1) (v := ?_) rfl (by kernel_rfl) (by kernel_rfl) (by kernel_rfl) (fun _ _ _ h => h) (Or.inl ⟨by kernel_rfl, ?_⟩) hS ?_
        rotate_left 1
        · (intro w' hSw; (try dsimp only at hSw); go_simp; try (with_reducible rfl))
        try simp only [Act.put, List.setIfInBounds_toArray, List.set_cons_zero, List.set_cons_succ]
        refine wpAnyH_takeD (i := 2) (v := ?_) rfl (by kernel_rfl) (by kernel_rfl) (by kernel_rfl) (fun _ _ _ h => h) (Or.inl ⟨by kernel_rfl, ?_⟩) hS ?_
        rotate_left 1
        · (intro w' hSw; (try dsimp only at hSw); go_simp; try (with_reducible rfl))
        try simp only [Act.put, List.setIfInBounds_toArray, List.set_cons_zero, List.set_cons_succ]
        refine wpAnyH_takeD (i := 3) (v := ?_) rfl (by kernel_rfl) (by kernel_rfl) (by kernel_rfl) (fun _ _ _ h => h) (Or.inl ⟨by kernel_rfl, ?_⟩) hS ?_
        rotate_left 1
        · (intro w' hSw; (try dsimp only at hSw); go_simp; try (with_reducible rfl))
        try simp only [Act.put, List.setIfInBounds_toArray, List.set_cons_zero, List.set_cons_succ]
        refine wpAnyH_takeD (i := 4) (v := ?_) rfl (by kernel_rfl) (by kernel_rfl) (by kernel_rfl) (fun _ _ _ h => h) (Or.inl ⟨by kernel_rfl, ?_⟩) hS ?_
        rotate_left 1
        · (intro w' hSw; (try dsimp only at hSw); go_simp; try (with_reducible rfl))
        try simp only [Act.put, List.setIfInBounds_toArray, List.set_cons_zero, List.set_cons_succ]
        refine wpAnyH_takeD (i := 5) (v := ?_) rfl (by kernel_rfl) (by kernel_rfl) (by kernel_rfl) (fun _ _ _ h => h) (Or.inl ⟨by kernel_rfl, ?_⟩) hS ?_
        rotate_left 1
        · (intro w' hSw; (try dsimp only at hSw); go_simp; try (with_reducible rfl))
        try simp only [Act.put, List.setIfInBounds_toArray, List.set_cons_zero, List.set_cons_succ]
        refine wpAnyH_takeD (i := 6) (v := ?_) rfl (by kernel_rfl) (by kernel_rfl) (by kernel_rfl) (fun _ _ _ h => h) (Or.inl ⟨by kernel_rfl, ?_⟩) hS ?_
        rotate_left 1
        · (intro w' hSw; (try dsimp only at hSw); go_simp; try (with_reducible rfl))
        try simp only [Act.put, List.setIfInBounds_toArray, List.set_cons_zero, List.set_cons_succ]
        refine wpAnyH_takeD (i := 7) (v := ?_) rfl (by kernel_rfl) (by kernel_rfl) (by kernel_rfl) (fun _ _ _ h => h) (Or.inl ⟨by kernel_rfl, ?_⟩) hS ?_
        rotate_left 1
        · (intro w' hSw; (try dsimp only at hSw); go_simp; try (with_reducible rfl))
        try simp only [Act.put, List.setIfInBounds_toArray, List.set_cons_zero, List.set_cons_succ]
        refine wpAnyH_takeD (i := 8) (v := ?_) rfl (by kernel_rfl) (by kernel_rfl) (by kernel_rfl) (fun _ _ _ h => h) (Or.inl ⟨by kernel_rfl, ?_⟩) hS ?_
        rotate_left 1
        · (intro w' hSw; (try dsimp only at hSw); go_simp; try (with_reducible rfl))
        try simp only [Act.put, List.setIfInBounds_toArray, List.set_cons_zero, List.set_cons_succ]
        refine wpAnyH_takeD (i := 9) (v := ?_) rfl (by kernel_rfl) (by kernel_rfl) (by kernel_rfl) (fun _ _ _ h => h) (Or.inl ⟨by kernel_rfl, ?_⟩) hS ?_
        rotate_left 1
        · (intro w' hSw; (try dsimp only at hSw); go_simp; try (with_reducible rfl))
        try simp only [Act.put, List.setIfInBounds_toArray, List.set_cons_zero, List.set_cons_succ]
        refine wpAnyH_takeD (i := 10) (v := ?_) rfl (by kernel_rfl) (by kernel_rfl) (by kernel_rfl) (fun _ _ _ h => h) (Or.inl ⟨by kernel_rfl, ?_⟩) hS ?_
        rotate_left 1
        · (intro w' hSw; (try dsimp only at hSw); go_simp; try (with_reducible rfl))
        try simp only [Act.put, List.setIfInBounds_toArray, List.set_cons_zero, List.set_cons_succ]
        refine wpAnyH_takeD (i := 11) (v := ?_) rfl (by kernel_rfl) (by kernel_rfl) (by kernel_rfl) (fun _ _ _ h => h) (Or.inl ⟨by kernel_rfl, ?_⟩) hS ?_
        rotate_left 1
        · (intro w' hSw; (try dsimp only at hSw); go_simp; try (with_reducible rfl))
        try simp only [Act.put, List.setIfInBounds_toArray, List.set_cons_zero, List.set_cons_succ]
        refine wpAnyH_takeD (i := 12) (v := ?_) rfl (by kernel_rfl) (by kernel_rfl) (by kernel_rfl) (fun _ _ _ h => h) (Or.inl ⟨by kernel_rfl, ?_⟩) hS ?_
        rotate_left 1
        · (intro w' hSw; (try dsimp only at hSw); go_simp; try (with_reducible rfl))
        try simp only [Act.put, List.setIfInBounds_toArray, List.set_cons_zero, List.set_cons_succ]
        refine wpAnyH_takeD (i := 13) (v := ?_) rfl (by kernel_rfl) (by kernel_rfl) (by kernel_rfl) (fun _ _ _ h => h) (Or.inl ⟨by kernel_rfl, ?_⟩) hS ?_
        rotate_left 1
        · (intro w' hSw; (try dsimp only at hSw); go_simp; try (with_reducible rfl))
        try simp only [Act.put, List.setIfInBounds_toArray, List.set_cons_zero, List.set_cons_succ]
        refine wpAnyH_takeD (i := 14) (v := ?_) rfl (by kernel_rfl) (by kernel_rfl) (by kernel_rfl) (fun _ _ _ h => h) (Or.inl ⟨by kernel_rfl, ?_⟩) hS ?_
        rotate_left 1
        · (intro w' hSw; (try dsimp only at hSw); go_simp; try (with_reducible rfl))
        try simp only [Act.put, List.setIfInBounds_toArray, List.set_cons_zero, List.set_cons_succ]
        refine wpAnyH_oneD (i := 15) rfl (by kernel_rfl) (fun K hK => ?_)
        rw [if_pos (by kernel_rfl)]
        go_simp
        refine Calls.mono HEQ.out ?_
        rintro e _ ⟨rfl, m2, rfl⟩
        obtain ⟨wq, hwq⟩ : ∃ W, W = (w.drewN (m + 1)).drewN m2 := ⟨_, rfl⟩
        rw [← hwq]
        have HWQ := Lib.hid hwq
        clear hwq
        go_wp2_with fail
        refine hK.out _ _ trivial (fun hS => ?_)
        clear hK
        try simp only [Act.put, List.setIfInBounds_toArray, List.set_cons_zero, List.set_cons_succ]
        refine wpAnyH_takeD (i := 16) (v := ?_) rfl (by kernel_rfl) (by kernel_rfl) (by kernel_rfl) (fun _ _ _ h => h) (Or.inl ⟨by kernel_rfl, ?_⟩) hS ?_
        rotate_left 1
        · (intro w' hSw; (try dsimp only at hSw); go_simp; try (with_reducible rfl))
        try simp only [Act.put, List.setIfInBounds_toArray, List.set_cons_zero, List.set_cons_succ]
        refine wpAnyH_done (by kernel_rfl) ?_ _
        clear e1 e2 e3
        have hwq : ∃ q, wq = w.drewN q := ⟨_, by rw [HWQ.out, World.drewN_drewN]⟩
        obtain ⟨q2, rfl⟩ := hwq
        cases bq
        · go_wp2
          go_roundw
          case rel => exact ⟨k + 1, q2, by omega, by omega, by go_num, rfl, Lib.hid (fun q h1 h2 => by
            by_cases e : q = k
            · rw [e]; exact HPB.out
            · exact HP.out q h1 (by omega))⟩
          case measure => simp [intOf]; omega
        · go_wp2
          go_ret
          have hp := period_some hk1 (by rw [← HN.out]; exact hlt) HPB.out HP.out
          exact ⟨ret_int (by rw [hp]), q2, rfl⟩
      · have d1 : (((n % k : Nat) : Int) == 0) = false := by simp; omega
        have hpb : perB lo k = false := by rw [perB, ← HN.out]; simp [hd]
        have HPB := Lib.hid hpb
        have E1 := Lib.hid e1
        clear hpb e1 hd
        generalize n % k = rr at *
        go_wp2_with fail
        have e1 := E1.out
        refine wp_region_held_drew (S := fun w' => True) (by kernel_rfl) trivial (fun hS => ?_)
        refine wpAnyH_takeD (i := 0) (v := ?_) rfl (by kernel_rfl) (by kernel_rfl) (by kernel_rfl) (fun _ _ _ h => h) (Or.inl ⟨by kernel_rfl, ?_⟩) hS ?_
        rotate_left 1
        · (intro w' hSw; (try dsimp only at hSw); go_simp; try (with_reducible rfl))
        try simp only [Act.put, List.setIfInBounds_toArray, List.set_cons_zero, List.set_cons_succ]
        refine wpAnyH_takeD (i := 1) (v := ?_) rfl (by kernel_rfl) (by kernel_rfl) (by kernel_rfl) (fun _ _ _ h => h) (Or.inl ⟨by kernel_rfl, ?_⟩) hS ?_
        rotate_left 1
        · (intro w' hSw; (try dsimp only at hSw); go_simp; try (with_reducible rfl))
        try simp only [Act.put, List.setIfInBounds_toArray, List.set_cons_zero, List.set_cons_succ]
        refine wpAnyH_takeD (i := 2) (v := ?_) rfl (by kernel_rfl) (by kernel_rfl) (by kernel_rfl) (fun _ _ _ h => h) (Or.inl ⟨by kernel_rfl, ?_⟩) hS ?_
        rotate_left 1
        · (intro w' hSw; (try dsimp only at hSw); go_simp; try (with_reducible rfl))
        try simp only [Act.put, List.setIfInBounds_toArray, List.set_cons_zero, List.set_cons_succ]
        refine wpAnyH_takeD (i := 3) (v := ?_) rfl (by kernel_rfl) (by kernel_rfl) (by kernel_rfl) (fun _ _ _ h => h) (Or.inl ⟨by kernel_rfl, ?_⟩) hS ?_
        rotate_left 1
        · (intro w' hSw; (try dsimp only at hSw); go_simp; try (with_reducible rfl))
        try simp only [Act.put, List.setIfInBounds_toArray, List.set_cons_zero, List.set_cons_succ]
        refine wpAnyH_takeD (i := 4) (v := ?_) rfl (by kernel_rfl) (by kernel_rfl) (by kernel_rfl) (fun _ _ _ h => h) (Or.inl ⟨by kernel_rfl, ?_⟩) hS ?_
        rotate_left 1
        · (intro w' hSw; (try dsimp only at hSw); go_simp; try (with_reducible rfl))
        try simp only [Act.put, List.setIfInBounds_toArray, List.set_cons_zero, List.set_cons_succ]
        refine wpAnyH_takeD (i := 5) (v := ?_) rfl (by kernel_rfl) (by kernel_rfl) (by kernel_rfl) (fun _ _ _ h => h) (Or.inl ⟨by kernel_rfl, ?_⟩) hS ?_
        rotate_left 1
        · (intro w' hSw; (try dsimp only at hSw); go_simp; try (with_reducible rfl))
        try simp only [Act.put, List.setIfInBounds_toArray, List.set_cons_zero, List.set_cons_succ]
        refine wpAnyH_takeD (i := 6) (v := undef) rfl (by kernel_rfl) (by kernel_rfl) (by kernel_rfl) (fun _ _ _ h => h) (Or.inr ⟨by kernel_rfl, rfl⟩) hS ?_
        try simp only [Act.put, List.setIfInBounds_toArray, List.set_cons_zero, List.set_cons_succ]
        refine wpAnyH_takeD (i := 7) (v := undef) rfl (by kernel_rfl) (by kernel_rfl) (by kernel_rfl) (fun _ _ _ h => h) (Or.inr ⟨by kernel_rfl, rfl⟩) hS ?_
        try simp only [Act.put, List.setIfInBounds_toArray, List.set_cons_zero, List.set_cons_succ]
        refine wpAnyH_takeD (i := 8) (v := undef) rfl (by kernel_rfl) (by kernel_rfl) (by kernel_rfl) (fun _ _ _ h => h) (Or.inr ⟨by kernel_rfl, rfl⟩) hS ?_
        try simp only [Act.put, List.setIfInBounds_toArray, List.set_cons_zero, List.set_cons_succ]
        refine wpAnyH_takeD (i := 9) (v := undef) rfl (by kernel_rfl) (by kernel_rfl) (by kernel_rfl) (fun _ _ _ h => h) (Or.inr ⟨by kernel_rfl, rfl⟩) hS ?_
        try simp only [Act.put, List.setIfInBounds_toArray, List.set_cons_zero, List.set_cons_succ]
        refine wpAnyH_takeD (i := 10) (v := undef) rfl (by kernel_rfl) (by kernel_rfl) (by kernel_rfl) (fun _ _ _ h => h) (Or.inr ⟨by kernel_rfl, rfl⟩) hS ?_
        try simp only [Act.put, List.setIfInBounds_toArray, List.set_cons_zero, List.set_cons_succ]
        refine wpAnyH_takeD (i := 11) (v := undef) rfl (by kernel_rfl) (by kernel_rfl) (by kernel_rfl) (fun _ _ _ h => h) (Or.inr ⟨by kernel_rfl, rfl⟩) hS ?_
        try simp only [Act.put, List.setIfInBounds_toArray, List.set_cons_zero, List.set_cons_succ]
        refine wpAnyH_takeD (i := 12) (v := undef) rfl (by kernel_rfl) (by kernel_rfl) (by kernel_rfl) (fun _ _ _ h => h) (Or.inr ⟨by kernel_rfl, rfl⟩) hS ?_
        try simp only [Act.put, List.setIfInBounds_toArray, List.set_cons_zero, List.set_cons_succ]
        refine wpAnyH_takeD (i := 13) (v := undef) rfl (by kernel_rfl) (by kernel_rfl) (by kernel_rfl) (fun _ _ _ h => h) (Or.inr ⟨by kernel_rfl, rfl⟩) hS ?_
        try simp only [Act.put, List.setIfInBounds_toArray, List.set_cons_zero, List.set_cons_succ]
        refine wpAnyH_takeD (i := 14) (v := undef) rfl (by kernel_rfl) (by kernel_rfl) (by kernel_rfl) (fun _ _ _ h => h) (Or.inr ⟨by kernel_rfl, rfl⟩) hS ?_
        try simp only [Act.put, List.setIfInBounds_toArray, List.set_cons_zero, List.set_cons_succ]
        refine wpAnyH_takeD (i := 15) (v := undef) rfl (by kernel_rfl) (by kernel_rfl) (by kernel_rfl) (fun _ _ _ h => h) (Or.inr ⟨by kernel_rfl, rfl⟩) hS ?_
        try simp only [Act.put, List.setIfInBounds_toArray, List.set_cons_zero, List.set_cons_succ]
        refine wpAnyH_takeD (i := 16) (v := ?_) rfl (by kernel_rfl) (by kernel_rfl) (by kernel_rfl) (fun _ _ _ h => h) (Or.inl ⟨by kernel_rfl, ?_⟩) hS ?_
        rotate_left 1
        · (intro w' hSw; (try dsimp only at hSw); go_simp; try (with_reducible rfl))
        try simp only [Act.put, List.setIfInBounds_toArray, List.set_cons_zero, List.set_cons_succ]
        refine wpAnyH_done (by kernel_rfl) ?_ _
        clear e1
        go_wp2
        go_roundw
        case rel => exact ⟨k + 1, m + 1, by omega, by omega, by go_num, by simp [World.drewN], Lib.hid (fun q h1 h2 => by
            by_cases e : q = k
            · rw [e]; exact HPB.out
            · exact HP.out q h1 (by omega))⟩
        case measure => simp [intOf]; omega
    · have hp : periodL lo = n := by
        rw [HN.out]
        refine period_none (fun q h1 h2 => HP.out q h1 (by have := HN.out; omega))
      have HPN := Lib.hid hp
      clear hp
      go_wp2
      go_ret
      exact ⟨ret_int (by rw [HPN.out]), m, rfl⟩
set_option maxHeartbeats 2000000 in
set_option maxRecDepth 100000 in
theorem turned_any (A : Option Addr) (n c r : Nat) (lo : List Int) (w : World) (B : Nat) (hs : Sl w B 1 A n c (ucells lo)) (hn : n = lo.length) (hr : r < n) (hB : B ≤ w.heap.size) (hl : n ≤ 60000) :
    Calls Try.prog 72 #[.slice A n c, .int .i64 (r : Int)] w (NewRow w 38 1 n (ucells (lo.drop r ++ lo.take r)) False) := by
  have hcap := hs.cap
  have hmax : c ≤ 9223372036854775807 := by have := hs.max; unfold maxLen at this; omega
  have hcr : ¬ c = r := by omega
  have s1 := hs.drop (k := r) (by omega)
  rw [if_neg hcr, ← ucells_drop] at s1
  have s2 := hs.take (k := r) (by omega)
  rw [← ucells_take] at s2
  have i1 : (r : Int) ≤ (n : Int) := by omega
  have i2 : (r : Int) ≤ (c : Int) := by omega
  have hbx : Below w.heap.size w (w.drew.alloc (.cells #[.slice (A.map (·.add (r * 1))) (n - r) (c - r), .slice A r c] 32)) := ((Below.refl _ _).drew).alloc (Nat.le_refl _) _
  have hCC := concatU_any _ 2 2 [lo.drop r, lo.take r] (w.drew.alloc (.cells #[.slice (A.map (·.add (r * 1))) (n - r) (c - r), .slice A r c] 32)) (w.heap.size + 1) (sl2_twoU (heap_alloc_new w.drew _) (Nat.lt_succ_self _) ((s1.below hbx hB).up (by omega)) ((s2.below hbx hB).up (by omega))) (by simp) (by simp [totU]; omega)
  have ht : totU [lo.drop r, lo.take r] = n := by simp [totU]; omega
  rw [ht, show [lo.drop r, lo.take r].flatten = lo.drop r ++ lo.take r by simp] at hCC
  simp only [Nat.mul_one] at hCC hbx
  have HCC := Lib.hid hCC
  have HBX := Lib.hid hbx
  have hn0 : ¬ n = 0 := by omega
  clear hCC s1 s2 ht hn hbx
  generalize hrr : lo.drop r ++ lo.take r = rr at *
  clear hrr
  go_enter Try.func72, Try.ntmps72
  go_wp2_with fail
  refine wp_region_held_drew (S := fun w' => True) (by kernel_rfl) trivial (fun hS => ?_)
  refine wpAnyH_takeD (i := 0) (v := ?_) rfl (by kernel_rfl) (by kernel_rfl) (by kernel_rfl) (fun _ _ _ h => h) (Or.inl ⟨by kernel_rfl, ?_⟩) hS ?_
  rotate_left 1
  · (intro w' hSw; (try dsimp only at hSw); go_simp; try (with_reducible rfl))
  try simp only [Act.put, List.setIfInBounds_toArray, List.set_cons_zero, List.set_cons_succ]
  refine wpAnyH_takeD (i := 1) (v := ?_) rfl (by kernel_rfl) (by kernel_rfl) (by kernel_rfl) (fun _ _ _ h => h) (Or.inl ⟨by kernel_rfl, ?_⟩) hS ?_
  rotate_left 1
  · (intro w' hSw; (try dsimp only at hSw); go_simp; try (with_reducible rfl))
  try simp only [Act.put, List.setIfInBounds_toArray, List.set_cons_zero, List.set_cons_succ]
  refine wpAnyH_takeD (i := 2) (v := ?_) rfl (by kernel_rfl) (by kernel_rfl) (by kernel_rfl) (fun _ _ _ h => h) (Or.inl ⟨by kernel_rfl, ?_⟩) hS ?_
  rotate_left 1
  · (intro w' hSw; (try dsimp only at hSw); go_simp; try (with_reducible rfl))
  try simp only [Act.put, List.setIfInBounds_toArray, List.set_cons_zero, List.set_cons_succ]
  refine wpAnyH_takeD (i := 3) (v := ?_) rfl (by kernel_rfl) (by kernel_rfl) (by kernel_rfl) (fun _ _ _ h => h) (Or.inl ⟨by kernel_rfl, ?_⟩) hS ?_
  rotate_left 1
  · (intro w' hSw; (try dsimp only at hSw); go_simp; try (with_reducible rfl))
  try simp only [Act.put, List.setIfInBounds_toArray, List.set_cons_zero, List.set_cons_succ]
  refine wpAnyH_takeD (i := 4) (v := ?_) rfl (by kernel_rfl) (by kernel_rfl) (by kernel_rfl) (fun _ _ _ h => h) (Or.inl ⟨by kernel_rfl, ?_⟩) hS ?_
  rotate_left 1
  · (intro w' hSw; (try dsimp only at hSw); go_simp; try (with_reducible rfl))
  try simp only [Act.put, List.setIfInBounds_toArray, List.set_cons_zero, List.set_cons_succ]
  refine wpAnyH_takeD (i := 5) (v := ?_) rfl (by kernel_rfl) (by kernel_rfl) (by kernel_rfl) (fun _ _ _ h => h) (Or.inl ⟨by kernel_rfl, ?_⟩) hS ?_
  rotate_left 1
  · (intro w' hSw; (try dsimp only at hSw); go_simp; try (with_reducible rfl))
  try simp only [Act.put, List.setIfInBounds_toArray, List.set_cons_zero, List.set_cons_succ]
  refine wpAnyH_oneD (i := 6) rfl (by kernel_rfl) (fun K hK => ?_)
  go_simp
  refine hK.out _ _ trivial (fun hS => ?_)
  clear hK
  try simp only [Act.put, List.setIfInBounds_toArray, List.set_cons_zero, List.set_cons_succ]
  refine wpAnyH_oneD (i := 7) rfl (by kernel_rfl) (fun K hK => ?_)
  go_simp
  refine Calls.mono HCC.out ?_
  rintro e w2 ⟨v2, rfl, hown2, hb2, hnil⟩
  go_wp2_with fail
  refine hK.out _ _ trivial (fun hS => ?_)
  clear hK
  try simp only [Act.put, List.setIfInBounds_toArray, List.set_cons_zero, List.set_cons_succ]
  refine wpAnyH_takeD (i := 8) (v := ?_) rfl (by kernel_rfl) (by kernel_rfl) (by kernel_rfl) (fun _ _ _ h => h) (Or.inl ⟨by kernel_rfl, ?_⟩) hS ?_
  rotate_left 1
  · (intro w' hSw; (try dsimp only at hSw); go_simp; try (with_reducible rfl))
  try simp only [Act.put, List.setIfInBounds_toArray, List.set_cons_zero, List.set_cons_succ]
  refine wpAnyH_done (by kernel_rfl) ?_ _
  go_wp2
  go_ret
  have hbx := HBX.out
  exact ⟨v2, rfl, own_base hown2 hbx.size, hbx.trans (hb2.mono hbx.size), fun h => absurd (hnil.mp h) hn0, False.elim⟩
end Go.Proofs.Ytkikkplpalabhaa
