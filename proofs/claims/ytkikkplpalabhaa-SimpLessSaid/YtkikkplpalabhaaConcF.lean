/- The walks of slices.Grow and slices.Concat (forms). -/
import Derived.Test.YtkikkplpalabhaaMd
import Derived.Test.YtkikkplpalabhaaMa
import Derived.Test.YtkikkplpalabhaaMc
import Derived.Lib.AppendZerosOnto
import Derived.Outline
namespace Go.Proofs.Ytkikkplpalabhaa
open Go.RowKit

theorem sliceF : SliceT Try.prog 66 42 2 16 :=
  SliceT.mk (z := .agg #[.int .i64 0, .int .i64 0]) Try.underlying66 (by kernel_rfl) (by decide) (by decide)
theorem infoF : (Try.prog.info? 42).map (fun i => (i.zero, i.size, i.bytes)) = some (some (.agg #[.int .i64 0, .int .i64 0]), 2, 16) := by kernel_rfl
/-- What Grow leaves of nil. -/
def GrowPostF (w : World) (N : Nat) (en : Ending) (w' : World) : Prop :=
  ∃ v, en = .returned v ∧ w'.ownsRow w.heap.size 42 2 v 0 [] ∧ Below w.heap.size w w' ∧ (v = .slice none 0 0 ↔ N = 0)
set_option maxHeartbeats 1000000 in
theorem growF_any (N : Nat) (w : World) (hN : N ≤ 1000000000) : Calls Try.prog 113 #[.slice none 0 0, .int .i64 N] w (GrowPostF w N) := by
  by_cases h0 : N = 0
  · subst h0
    go_enter Try.func113, Try.ntmps113
    go_wp2
    go_ret
    exact ⟨_, rfl, World.ownsRow_nil _ _ _ _, Below.refl _ _, by simp⟩
  replace h0 : 0 < N := by omega
  obtain ⟨i0, hi, hz0, hz1, hz2⟩ := info_parts infoF
  have hold : (Builtin.firstCells i0.size 0 (.slice none 0 0)).run Try.prog w.drew = .ok (#[] : Array Value) w.drew := run_firstCells_none w.drew i0.size 0 0 0
  have hrz : ∀ ty, (Builtin.append_ #[66, 3] ty #[.slice none 0 0, .int .i64 (N : Int)]).run Try.prog w = _ := fun ty =>
    Lib.run_append_grow_zeros w 66 3 ty 42 i0 _ .i64 .i64 Try.underlying66 Try.underlying3 hi hz0 none 0 0 [] hold N h0 (by omega) (by omega) (by omega) (by rw [hz2]; omega)
      (growslice_fits (by omega) (by rw [hz2]; omega))
  have hGn : 0 + N ≤ grownCap w (0 + N) 0 42 := grownCap_ge w _ _ _
  have hGm := grownCap_le_maxLen w (0 + N) 0 42 (by unfold maxLen; omega)
  have hzc : ∀ k, (Builtin.zeroCells #[Value.int .i64 0, Value.int .i64 0] k).size = k * 2 := fun k => by simp [Builtin.zeroCells]
  generalize grownCap w (0 + N) 0 42 = G at *
  have hG63 : G ≤ 9223372036854775807 := by unfold maxLen at hGm; omega
  have hown : ((w.alloc (.cells (Builtin.zeroCells #[Value.int .i64 0, Value.int .i64 0] N ++ Builtin.zeroCells #[Value.int .i64 0, Value.int .i64 0] (G - N)) 42)).drew).ownsRow w.heap.size 42 2 (.slice (some ⟨w.heap.size, 0, none⟩) 0 G) 0 [] :=
    World.ownsRow_made w _ G (Nat.le_refl _) hGm (by rw [Array.size_append, hzc, hzc]; omega)
  have hbel : Below w.heap.size w ((w.alloc (.cells (Builtin.zeroCells #[Value.int .i64 0, Value.int .i64 0] N ++ Builtin.zeroCells #[Value.int .i64 0, Value.int .i64 0] (G - N)) 42)).drew) :=
    ((Below.refl w.heap.size w).alloc (Nat.le_refl _) _).drew
  have HO := Lib.hid hown
  have HB := Lib.hid hbel
  clear hown hbel hold hzc hz0 hz1 hz2 hi
  have h1 : ¬ ((N : Int) < 0) := by omega
  have h2 : (N : Int) > 0 := by omega
  go_enter Try.func113, Try.ntmps113
  go_wp2_with (at_builtin; refine Lib.wpList_append_run _ rfl _ _ _ _ rfl _ _ rfl rfl _ _ (hrz _) ?_)
  go_ret
  exact ⟨_, rfl, HO.out, HB.out, by simp; omega⟩

/-- How many there are in all. -/
def totF (L : List (List Nd)) : Nat := (L.map List.length).sum
theorem totF_snoc {L : List (List Nd)} {k : Nat} (h : k < L.length) : totF (L.take (k + 1)) = totF (L.take k) + L[k].length := by
  rw [List.take_succ_eq_append_getElem h, totF, List.map_append, List.sum_append]; simp [totF]
theorem totF_le {L : List (List Nd)} (k : Nat) : totF (L.take k) ≤ totF L := by
  have := congrArg (fun l => totF l) (List.take_append_drop k L)
  rw [totF, List.map_append, List.sum_append] at this
  have e : totF (L.take k) = ((L.take k).map List.length).sum := rfl
  omega
theorem totF_flat (L : List (List Nd)) : L.flatten.length = totF L := by simp [totF, List.length_flatten]
theorem flatF_snoc {L : List (List Nd)} {k : Nat} (h : k < L.length) : ncells (L.take (k + 1)).flatten = ncells (L.take k).flatten ++ ncells L[k] := by
  rw [List.take_succ_eq_append_getElem h, List.flatten_append]; simp [ncells_append]

set_option maxHeartbeats 2000000 in
theorem concatF_any (A : Option Addr) (n c : Nat) (L : List (List Nd)) (w : World) (B : Nat) (hs : Sl2 w B 2 A n c (L.map ncells)) (hB : B ≤ w.heap.size) (hl : totF L ≤ 1000000000) :
    Calls Try.prog 85 #[.slice A n c] w (NewRow w 42 2 (totF L) (ncells L.flatten) (totF L = 0)) := by
  have hn : n = L.length := by have := hs.len; simpa using this
  have hcm : n ≤ 9223372036854775807 := by have := hs.cap; have := hs.max; unfold maxLen at this; omega
  have HN := Lib.hid hn
  clear hn
  go_enter Try.func85, Try.ntmps85
  go_wp2
  go_loop [3, 11] (fun sz i => ∃ k : Nat, k ≤ n ∧ i = .int .i64 k ∧ sz = .int .i64 (totF (L.take k) : Nat)) (fun _ i => n - (intOf i).toNat)
  case atStart => exact ⟨0, by omega, rfl, rfl⟩
  case round =>
    obtain ⟨k, hk, rfl, rfl⟩ := hrel
    by_cases hlt : k < n
    · have hkl : k < L.length := by rw [← HN.out]; exact hlt
      obtain ⟨b, o, A', n', c', rfl, _, hc, hrow⟩ := hs.at_ (j := k) (ys := ncells L[k]) (by simp [hkl])
      have hn' : n' = L[k].length := by have := hrow.len; rw [ncells_len] at this; omega
      have hsn := totF_snoc hkl
      rw [← hn'] at hsn
      have ht1 := totF_le (L := L) (k + 1)
      rw [hsn] at ht1
      have HSN := Lib.hid hsn
      clear hsn hn'
      generalize totF (L.take k) = t at *
      go_wp2
      go_round
      case rel => exact ⟨k + 1, by omega, by go_num, by rw [HSN.out]; go_num⟩
      case measure => simp [intOf]; omega
    · have hkn : k = n := by omega
      subst hkn
      have htl : totF (L.take k) = totF L := by rw [HN.out, List.take_length]
      rw [htl]
      clear htl
      generalize hT : totF L = T at *
      have HT := Lib.hid hT
      clear hT
      go_wp2_with fail
      refine (growF_any T w hl).mono ?_
      rintro e w1 ⟨v1, rfl, hown1, hb1, hn1⟩
      have HN1 := Lib.hid hn1
      clear hn1
      go_wp2
      go_loopw [6, 27] (fun v i wr => ∃ k' : Nat, k' ≤ k ∧ i = .int .i64 k' ∧ wr.ownsRow w.heap.size 42 2 v (totF (L.take k')) (ncells (L.take k').flatten) ∧ Below w.heap.size w wr ∧ Hid (v = .slice none 0 0 ↔ T = 0)) (fun _ i _ => k - (intOf i).toNat)
      case atStart => exact ⟨0, by omega, rfl, hown1, hb1, HN1⟩
      case round =>
        obtain ⟨k', hk', rfl, hown, hbr, hnn⟩ := hrel
        by_cases hlt' : k' < k
        · have hkl : k' < L.length := by rw [← HN.out]; exact hlt'
          obtain ⟨b, o, A', n', c', hAeq, _, hc, hrow⟩ := (hs.below hbr hB).at_ (j := k') (ys := ncells L[k']) (by simp [hkl])
          cases hAeq
          have hn' : n' = L[k'].length := by have := hrow.len; rw [ncells_len] at this; omega
          have hsn := totF_snoc hkl
          have hfl := flatF_snoc hkl
          rw [← hn'] at hsn
          have ht1 := totF_le (L := L) (k' + 1)
          rw [hsn, HT.out] at ht1
          have h0T : T = 0 → n' = 0 := fun h => by omega
          have H0T := Lib.hid h0T
          have HSN := Lib.hid hsn
          have HFL := Lib.hid hfl
          have h1c : ∀ u ∈ ncells L[k'], u.oneCell' = true := ncells_one _
          clear hsn hn' hfl h0T
          have hzr := hbr.size
          go_wp2_with (at_builtin; refine wpList_extend rfl (.tmp 31) (.tmp 32) 66 rfl w.heap.size 42 2 16 sliceF _ _ _ hown rfl B A' n' c' _ rfl hrow h1c (by omega) (by omega) hzr ?_; intro v2 w2 hown2 ht2 hat2 hnil2; have HNIL2 := Lib.hid hnil2; clear hnil2)
          go_roundw
          case rel =>
            refine ⟨k' + 1, by omega, by go_num, by rw [HSN.out, HFL.out]; exact hown2, hbr.trans (ht2.below hzr (fun g hg hg' => by have := (hown.lt g hg').1; omega)), Lib.hid (HNIL2.out.trans ⟨fun h => hnn.out.1 h.1, fun h => ⟨hnn.out.2 h, H0T.out h⟩⟩)⟩
          case measure => simp [intOf]; omega
        · have hkk : k' = k := by omega
          subst hkk
          go_wp2
          go_ret
          rw [HN.out, List.take_length, HT.out] at hown
          exact ⟨_, rfl, hown, hbr, hnn.out⟩
end Go.Proofs.Ytkikkplpalabhaa
