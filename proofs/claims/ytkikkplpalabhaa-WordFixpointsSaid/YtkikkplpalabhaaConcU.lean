/- The walks of slices.Grow and slices.Concat (sets). -/
import Derived.Test.YtkikkplpalabhaaRowsB
import Derived.Test.YtkikkplpalabhaaMa
import Derived.Test.YtkikkplpalabhaaMc
import Derived.Lib.AppendZerosOnto
import Derived.Outline
namespace Go.Proofs.Ytkikkplpalabhaa
open Go.RowKit

theorem infoU : (Try.prog.info? 38).map (fun i => (i.zero, i.size, i.bytes)) = some (some (.int .u64 0), 1, 8) := by kernel_rfl
/-- What Grow leaves of nil. -/
def GrowPostU (w : World) (N : Nat) (en : Ending) (w' : World) : Prop :=
  ∃ v, en = .returned v ∧ w'.ownsRow w.heap.size 38 1 v 0 [] ∧ Below w.heap.size w w' ∧ (v = .slice none 0 0 ↔ N = 0)
set_option maxHeartbeats 1000000 in
theorem growU_any (N : Nat) (w : World) (hN : N ≤ 1000000000) : Calls Try.prog 117 #[.slice none 0 0, .int .i64 N] w (GrowPostU w N) := by
  by_cases h0 : N = 0
  · subst h0
    go_enter Try.func117, Try.ntmps117
    go_wp2
    go_ret
    exact ⟨_, rfl, World.ownsRow_nil _ _ _ _, Below.refl _ _, by simp⟩
  replace h0 : 0 < N := by omega
  obtain ⟨i0, hi, hz0, hz1, hz2⟩ := info_parts infoU
  have hold : (Builtin.firstCells i0.size 0 (.slice none 0 0)).run Try.prog w.drew = .ok (#[] : Array Value) w.drew := run_firstCells_none w.drew i0.size 0 0 0
  have hrz : ∀ ty, (Builtin.append_ #[32, 3] ty #[.slice none 0 0, .int .i64 (N : Int)]).run Try.prog w = _ := fun ty =>
    Lib.run_append_grow_zeros w 32 3 ty 38 i0 _ .i64 .i64 Try.underlying32 Try.underlying3 hi hz0 none 0 0 [] hold N h0 (by omega) (by omega) (by omega) (by rw [hz2]; omega)
      (growslice_fits (by omega) (by rw [hz2]; omega))
  have hGn : 0 + N ≤ grownCap w (0 + N) 0 38 := grownCap_ge w _ _ _
  have hGm := grownCap_le_maxLen w (0 + N) 0 38 (by unfold maxLen; omega)
  have hzc : ∀ k, (Builtin.zeroCells #[Value.int .u64 0] k).size = k * 1 := fun k => by simp [Builtin.zeroCells]
  generalize grownCap w (0 + N) 0 38 = G at *
  have hG63 : G ≤ 9223372036854775807 := by unfold maxLen at hGm; omega
  have hown : ((w.alloc (.cells (Builtin.zeroCells #[Value.int .u64 0] N ++ Builtin.zeroCells #[Value.int .u64 0] (G - N)) 38)).drew).ownsRow w.heap.size 38 1 (.slice (some ⟨w.heap.size, 0, none⟩) 0 G) 0 [] :=
    World.ownsRow_made w _ G (Nat.le_refl _) hGm (by rw [Array.size_append, hzc, hzc]; omega)
  have hbel : Below w.heap.size w ((w.alloc (.cells (Builtin.zeroCells #[Value.int .u64 0] N ++ Builtin.zeroCells #[Value.int .u64 0] (G - N)) 38)).drew) :=
    ((Below.refl w.heap.size w).alloc (Nat.le_refl _) _).drew
  have HO := Lib.hid hown
  have HB := Lib.hid hbel
  clear hown hbel hold hzc hz0 hz1 hz2 hi
  have h1 : ¬ ((N : Int) < 0) := by omega
  have h2 : (N : Int) > 0 := by omega
  go_enter Try.func117, Try.ntmps117
  go_wp2_with (at_builtin; refine Lib.wpList_append_run _ rfl _ _ _ _ rfl _ _ rfl rfl _ _ (hrz _) ?_)
  go_ret
  exact ⟨_, rfl, HO.out, HB.out, by simp; omega⟩

/-- How many there are in all. -/
def totU (L : List (List Int)) : Nat := (L.map List.length).sum
theorem totU_snoc {L : List (List Int)} {k : Nat} (h : k < L.length) : totU (L.take (k + 1)) = totU (L.take k) + L[k].length := by
  rw [List.take_succ_eq_append_getElem h, totU, List.map_append, List.sum_append]; simp [totU]
theorem totU_le {L : List (List Int)} (k : Nat) : totU (L.take k) ≤ totU L := by
  have := congrArg (fun l => totU l) (List.take_append_drop k L)
  rw [totU, List.map_append, List.sum_append] at this
  have e : totU (L.take k) = ((L.take k).map List.length).sum := rfl
  omega
theorem totU_flat (L : List (List Int)) : L.flatten.length = totU L := by simp [totU, List.length_flatten]
theorem flatU_snoc {L : List (List Int)} {k : Nat} (h : k < L.length) : ucells (L.take (k + 1)).flatten = ucells (L.take k).flatten ++ ucells L[k] := by
  rw [List.take_succ_eq_append_getElem h, List.flatten_append]; simp [ucells_append]

set_option maxHeartbeats 2000000 in
theorem concatU_any (A : Option Addr) (n c : Nat) (L : List (List Int)) (w : World) (B : Nat) (hs : Sl2 w B 1 A n c (L.map ucells)) (hB : B ≤ w.heap.size) (hl : totU L ≤ 1000000000) :
    Calls Try.prog 108 #[.slice A n c] w (NewRow w 38 1 (totU L) (ucells L.flatten) (totU L = 0)) := by
  have hn : n = L.length := by have := hs.len; simpa using this
  have hcm : n ≤ 9223372036854775807 := by have := hs.cap; have := hs.max; unfold maxLen at this; omega
  have HN := Lib.hid hn
  clear hn
  go_enter Try.func108, Try.ntmps108
  go_wp2
  go_loop [3, 11] (fun sz i => ∃ k : Nat, k ≤ n ∧ i = .int .i64 k ∧ sz = .int .i64 (totU (L.take k) : Nat)) (fun _ i => n - (intOf i).toNat)
  case atStart => exact ⟨0, by omega, rfl, rfl⟩
  case round =>
    obtain ⟨k, hk, rfl, rfl⟩ := hrel
    by_cases hlt : k < n
    · have hkl : k < L.length := by rw [← HN.out]; exact hlt
      obtain ⟨b, o, A', n', c', rfl, _, hc, hrow⟩ := hs.at_ (j := k) (ys := ucells L[k]) (by simp [hkl])
      have hn' : n' = L[k].length := by have := hrow.len; rw [ucells_len] at this; omega
      have hsn := totU_snoc hkl
      rw [← hn'] at hsn
      have ht1 := totU_le (L := L) (k + 1)
      rw [hsn] at ht1
      have HSN := Lib.hid hsn
      clear hsn hn'
      generalize totU (L.take k) = t at *
      go_wp2
      go_round
      case rel => exact ⟨k + 1, by omega, by go_num, by rw [HSN.out]; go_num⟩
      case measure => simp [intOf]; omega
    · have hkn : k = n := by omega
      subst hkn
      have htl : totU (L.take k) = totU L := by rw [HN.out, List.take_length]
      rw [htl]
      clear htl
      generalize hT : totU L = T at *
      have HT := Lib.hid hT
      clear hT
      go_wp2_with fail
      refine (growU_any T w hl).mono ?_
      rintro e w1 ⟨v1, rfl, hown1, hb1, hn1⟩
      have HN1 := Lib.hid hn1
      clear hn1
      go_wp2
      go_loopw [6, 27] (fun v i wr => ∃ k' : Nat, k' ≤ k ∧ i = .int .i64 k' ∧ wr.ownsRow w.heap.size 38 1 v (totU (L.take k')) (ucells (L.take k').flatten) ∧ Below w.heap.size w wr ∧ Hid (v = .slice none 0 0 ↔ T = 0)) (fun _ i _ => k - (intOf i).toNat)
      case atStart => exact ⟨0, by omega, rfl, hown1, hb1, HN1⟩
      case round =>
        obtain ⟨k', hk', rfl, hown, hbr, hnn⟩ := hrel
        by_cases hlt' : k' < k
        · have hkl : k' < L.length := by rw [← HN.out]; exact hlt'
          obtain ⟨b, o, A', n', c', hAeq, _, hc, hrow⟩ := (hs.below hbr hB).at_ (j := k') (ys := ucells L[k']) (by simp [hkl])
          cases hAeq
          have hn' : n' = L[k'].length := by have := hrow.len; rw [ucells_len] at this; omega
          have hsn := totU_snoc hkl
          have hfl := flatU_snoc hkl
          rw [← hn'] at hsn
          have ht1 := totU_le (L := L) (k' + 1)
          rw [hsn, HT.out] at ht1
          have h0T : T = 0 → n' = 0 := fun h => by omega
          have H0T := Lib.hid h0T
          have HSN := Lib.hid hsn
          have HFL := Lib.hid hfl
          have h1c : ∀ u ∈ ucells L[k'], u.oneCell' = true := ucells_one _
          clear hsn hn' hfl h0T
          have hzr := hbr.size
          go_wp2_with (at_builtin; refine wpList_extend rfl (.tmp 31) (.tmp 32) 32 rfl w.heap.size 38 1 8 sliceSets _ _ _ hown rfl B A' n' c' _ rfl hrow h1c (by omega) (by omega) hzr ?_; intro v2 w2 hown2 ht2 hat2 hnil2; have HNIL2 := Lib.hid hnil2; clear hnil2)
          go_roundw
          case rel =>
            refine ⟨k' + 1, by omega, by go_num, by rw [HSN.out, HFL.out]; exact hown2, hbr.trans (ht2.below hzr (fun g hg hg' => by have := (hown.lt g hg').1; omega)), Lib.hid (HNIL2.out.trans ⟨fun h => hnn.out.1 h.1, fun h => ⟨hnn.out.2 h, H0T.out h⟩⟩)⟩
          case measure => simp [intOf]; omega
        · have hkk : k' = k := by omega
          subst hkk
          go_wp2
          go_ret
          rw [HN.out, List.take_length, HT.out] at hown
          exact ⟨_, rfl, hown, hbr, hnn.out⟩
end Go.Proofs.Ytkikkplpalabhaa
