/- The walks of slices.Clone, IndexFunc, ContainsFunc at nodes; layer 23's Next and Not, and the reference's. -/
import Derived.Test.YtpjhligbflmeoaaLtlG
namespace Go.Proofs.Ytpjhligbflmeoaa
open Go.RowKit

theorem sliceNd : SliceT Try.prog 22 44 2 16 :=
  SliceT.mk (z := .agg #[.int .i64 0, .int .i64 0]) Try.underlying22 (by kernel_rfl) (by decide) (by decide)

set_option maxHeartbeats 400000 in
theorem cloneNd_any (A : Option Addr) (n c : Nat) (xs : List Value) (w : World) (B : Nat) (hs : Sl w B 2 A n c xs) (h1 : ∀ u ∈ xs, u.oneCell' = true) (hB : B ≤ w.heap.size) (hn : n ≤ 1000000000) :
    Calls Try.prog 47 #[.slice A n c] w (NewRow w 44 2 n xs (A = none)) := by
  have hnil := fun (w : World) (a : Option Addr) (l c : Nat) => Lib.run_eql_slice_nil (P := Try.prog) w 22 44 a l c 0 0 Try.underlying22
  rcases A with _ | ad
  · have hc : c = 0 := hs.nil rfl
    have hm : n = 0 := by have := hs.cap; omega
    subst hc; subst hm
    have hx : xs = [] := List.eq_nil_of_length_eq_zero (by rw [hs.len])
    subst hx
    go_enter Try.func47, Try.ntmps47
    go_wp2
    go_ret
    exact ⟨_, rfl, World.ownsRow_nil _ _ _ _, Below.refl _ _, by simp⟩
  · have hb0 : ∀ w : World, (w.alloc (.cells #[] 44)).ownsRow w.heap.size 44 2 (.slice (some ⟨w.heap.size, 0, none⟩) 0 0) 0 [] :=
      fun w => World.ownsRow_made w #[] 0 (Nat.le_refl _) (by unfold maxLen; omega) (by simp)
    go_enter Try.func47, Try.ntmps47
    go_wp2_with (at_builtin; refine wpList_extend rfl (.tmp 5) (.tmp 6) 22 rfl w.heap.size 44 2 16 sliceNd _ _ _ (hb0 w) rfl B (some ad) n c xs rfl (hs.below ((Below.refl w.heap.size w).alloc (Nat.le_refl _) _) hB) h1 (by omega) (by omega) (by simp) ?_; intro v1 w1 hown1 ht1 hat1 hnil1)
    go_ret
    refine ⟨v1, rfl, by simpa using hown1, ?_, by simp [hnil1]⟩
    exact ((Below.refl w.heap.size w).alloc (Nat.le_refl _) _).trans (ht1.below (by simp) (fun k hk => by simp [Value.ownBlock]; omega))

set_option maxHeartbeats 400000 in
theorem next1_any (x : Nd) (w : World) :
    Calls Try.prog 46 #[.agg #[.int .i64 x.op, .int .i64 x.n]] w fun e w' => e = .returned (.bool (x.op == 8)) ∧ w' = w.alloc (.cells #[.int .i64 x.op, .int .i64 x.n] 44) := by
  go_enter Try.func46, Try.ntmps46
  go_wp2
  go_ret
  exact ⟨rfl, rfl⟩

/-- The first node that is a next; -1: none. -/
def nextAt (f : List Nd) : Int := if hasNext f then f.findIdx (fun x => x.op == 8) else -1

/-- A bool, in memory that has only grown. -/
def Tru (w : World) (b : Bool) (en : Ending) (w' : World) : Prop := en = .returned (.bool b) ∧ Below w.heap.size w w'
/-- A number that is not below 0 just if there is one. -/
def Fnd (w : World) (b : Bool) (en : Ending) (w' : World) : Prop := ∃ k : Int, en = .returned (.int .i64 k) ∧ -1 ≤ k ∧ k ≤ 9223372036854775807 ∧ Below w.heap.size w w' ∧ decide (0 ≤ k) = b

theorem any_take_snoc {f : List Nd} {k : Nat} (hk : k < f.length) (p : Nd → Bool) : (f.take (k + 1)).any p = ((f.take k).any p || p f[k]) := by
  rw [take_snoc f k hk, List.any_append]; simp

set_option maxHeartbeats 1000000 in
theorem indexNext_any (A : Option Addr) (c : Nat) (f : List Nd) (w : World) (B : Nat) (hf : Sl w B 2 A f.length c (ncells f)) (hB : B ≤ w.heap.size) (hl : f.length ≤ 1000000000) :
    Calls Try.prog 52 #[.slice A f.length c, .func (.func 46) #[] #[]] w (Fnd w (hasNext f)) := by
  go_enter Try.func52, Try.ntmps52
  go_wp2
  go_loopw [8] (fun i wr => ∃ k : Nat, k ≤ f.length ∧ i = .int .i64 k ∧ Below w.heap.size w wr ∧ Hid ((f.take k).any (fun x => x.op == 8) = false)) (fun i _ => f.length - (intOf i).toNat)
  case atStart => exact ⟨0, by omega, rfl, Below.refl _ _, rfl⟩
  case round =>
    obtain ⟨k, hk, rfl, hbr, HA⟩ := hrel
    have hsw := hbr.size
    by_cases hlt : k < f.length
    · obtain ⟨b, o, rfl, _, hc0, hc1⟩ := rd_nd (hf.rd.below hbr hB) hlt
      have hsn := any_take_snoc hlt (fun x => x.op == 8)
      rw [HA.out, Bool.false_or] at hsn
      have hany : (f[k].op == 8) = true → hasNext f = true := fun h => List.any_eq_true.2 ⟨f[k], List.getElem_mem hlt, h⟩
      have HS := Lib.hid hsn
      have HY := Lib.hid hany
      clear hsn hany
      generalize hx : f[k] = x at *
      have Hx := Lib.hid hx
      clear hx
      go_wp2_with fail
      refine (next1_any x _).mono ?_
      rintro e w2 ⟨rfl, rfl⟩
      by_cases h8 : (x.op == 8) = true
      · go_wp2
        go_ret
        exact ⟨_, rfl, by omega, by omega, hbr.alloc hsw _, by rw [HY.out h8]; simp⟩
      · have h8' : (x.op == 8) = false := by simpa using h8
        clear h8
        go_wp2
        go_roundw
        case rel => exact ⟨k + 1, by omega, by go_num, hbr.alloc hsw _, by show _ = _; rw [HS.out]; exact h8'⟩
        case measure => simp [intOf]; omega
    · have hkl : k = f.length := by omega
      subst hkl
      rw [List.take_of_length_le (Nat.le_refl _)] at HA
      go_wp2
      go_ret
      exact ⟨_, rfl, by omega, by omega, hbr, by rw [hasNext, HA.out]; simp⟩

set_option maxHeartbeats 400000 in
theorem containsNext_any (A : Option Addr) (c : Nat) (f : List Nd) (w : World) (B : Nat) (hf : Sl w B 2 A f.length c (ncells f)) (hB : B ≤ w.heap.size) (hl : f.length ≤ 1000000000) :
    Calls Try.prog 45 #[.slice A f.length c, .func (.func 46) #[] #[]] w (Tru w (hasNext f)) := by
  go_enter Try.func45, Try.ntmps45
  go_wp2_with fail
  refine (indexNext_any A c f w B hf hB hl).mono ?_
  rintro e w1 ⟨k, rfl, _, _, hb, hk⟩
  go_wp2
  go_ret
  exact ⟨rfl, hb⟩

/-- P23.2. -/
def nextF (f : List Nd) : Bool := wrong f == 0 && hasNext f

set_option maxHeartbeats 400000 in
theorem Next_any (A : Option Addr) (c : Nat) (f : List Nd) (w : World) (B : Nat) (hf : Sl w B 2 A f.length c (ncells f)) (hB : B ≤ w.heap.size) (hl : f.length ≤ 1000000000) :
    Calls Try.prog 28 #[.slice A f.length c] w (Tru w (nextF f)) := by
  have hneq := fun (w : World) (a : Option Addr) (l c : Nat) => run_neq_slice_nil_any (P := Try.prog) w 30 3 a l c 0 0 Try.underlying30
  go_enter Try.func28, Try.ntmps28
  go_wp2_with fail
  refine (Spans_any A c f w B hf hB hl).mono ?_
  rintro e w1 ⟨v, rfl, hown, hb, hnil⟩
  have hf1 := hf.below hb hB
  have hsz := hb.size
  by_cases hw : wrong f = 0
  · have hne : ¬ spans f = [] := by rw [spans_nil_iff]; simp [hw]
    have hpos : 0 < (spans f).length := List.length_pos_iff.2 hne
    obtain ⟨g, cap, rfl, _⟩ := own_form hown hpos
    have HW := Lib.hid hw
    clear hw hne hnil hown
    go_wp2_with fail
    refine (containsNext_any A c f _ B hf1 (by omega) hl).mono ?_
    rintro e w2 ⟨rfl, hb2⟩
    go_wp2
    go_ret
    exact ⟨ret_bool (by rw [nextF, HW.out]; simp), hb.trans (hb2.mono hsz)⟩
  · have hv := hnil.2 ((spans_nil_iff f).2 hw)
    subst hv
    have HW := Lib.hid hw
    clear hw hnil hown
    go_wp2
    go_ret
    exact ⟨ret_bool (by rw [nextF]; simp [HW.out]), hb⟩

set_option maxHeartbeats 1000000 in
theorem NextR_any (A : Option Addr) (c : Nat) (f : List Nd) (w : World) (B : Nat) (hf : Sl w B 2 A f.length c (ncells f)) (hl : f.length ≤ 1000000000) :
    Calls Try.prog 29 #[.slice A f.length c] w fun e w' => e = .returned (.bool (nextF f)) ∧ w = w' := by
  go_enter Try.func29, Try.ntmps29
  go_wp2
  go_loop [3] (fun i => ∃ k : Nat, k ≤ f.length ∧ i = .int .i64 k ∧ Hid ((f.take k).any (fun x => x.op == 8) = false)) (fun i => f.length - (intOf i).toNat)
  case atStart => exact ⟨0, by omega, rfl, rfl⟩
  case round =>
    obtain ⟨k, hk, rfl, HA⟩ := hrel
    by_cases hlt : k < f.length
    · obtain ⟨b, o, rfl, _, hc0, hc1⟩ := rd_nd hf.rd hlt
      have hsn := any_take_snoc hlt (fun x => x.op == 8)
      rw [HA.out, Bool.false_or] at hsn
      have hany : f[k].op = 8 → hasNext f = true := fun h => List.any_eq_true.2 ⟨f[k], List.getElem_mem hlt, by simp [h]⟩
      have HS := Lib.hid hsn
      have HY := Lib.hid hany
      clear hsn hany
      generalize hx : f[k] = x at *
      obtain ⟨op, n⟩ := x
      dsimp only at *
      have Hx := Lib.hid hx
      clear hx
      by_cases h8 : op = 8
      · subst h8
        go_wp2_with (first | (go_at_call 17; refine (Is_any _ c f w B hf hl).mono ?_; rintro e w' ⟨rfl, rfl⟩))
        go_ret
        exact ⟨ret_bool (by rw [nextF, HY.out trivial, Bool.and_true]), rfl⟩
      · go_wp2
        go_round
        case rel => exact ⟨k + 1, by omega, by go_num, by show _ = _; rw [HS.out]; simpa using h8⟩
        case measure => simp [intOf]; omega
    · have hkl : k = f.length := by omega
      subst hkl
      rw [List.take_of_length_le (Nat.le_refl _)] at HA
      go_wp2
      go_ret
      exact ⟨ret_bool (by rw [nextF, hasNext, HA.out, Bool.and_false]), rfl⟩

set_option maxHeartbeats 1000000 in
theorem Not_any (A : Option Addr) (c : Nat) (f : List Nd) (w : World) (B : Nat) (hf : Sl w B 2 A f.length c (ncells f)) (hB : B ≤ w.heap.size) (hl : f.length ≤ 1000000) :
    Calls Try.prog 33 #[.slice A f.length c] w (NewRow w 44 2 (neg f).length (ncells (neg f)) (neg f = [])) := by
  have heq := fun (w : World) (a : Option Addr) (l c : Nat) => Lib.run_eql_slice_nil (P := Try.prog) w 30 3 a l c 0 0 Try.underlying30
  go_enter Try.func33, Try.ntmps33
  go_wp2_with fail
  refine (Spans_any A c f w B hf hB (by omega)).mono ?_
  rintro e w1 ⟨v, rfl, hown, hb, hnil⟩
  have hf1 := hf.below hb hB
  have hsz := hb.size
  by_cases hw : wrong f = 0
  · have hne : ¬ spans f = [] := by rw [spans_nil_iff]; simp [hw]
    have hpos : 0 < (spans f).length := List.length_pos_iff.2 hne
    obtain ⟨g, cap, rfl, _⟩ := own_form hown hpos
    have HW := Lib.hid hw
    clear hw hne hnil hown
    go_wp2_with fail
    refine (cloneNd_any A f.length c (ncells f) _ B hf1 (ncells_one f) (by omega) (by omega)).mono ?_
    rintro e w2 ⟨v2, rfl, hown2, hb2, _⟩
    have hs2 := hb2.size
    go_wp2_with (at_builtin; refine wpList_push rfl (.tmp 7) (.tmp 9) 22 rfl w1.heap.size 44 2 16 sliceNd _ _ _ (hown2.alloc _) rfl w2.heap.size #[.int .i64 4, .int .i64 0] rfl (heap_alloc_new w2 _) rfl (by simp [Value.oneCell']) (by omega) (by omega) (by simp; omega) ?_; intro v3 w3 hown3 ht3 hat3 hne3)
    go_ret
    have hN : neg f = f ++ [⟨4, 0⟩] := by rw [neg, if_pos HW.out]
    refine ⟨v3, rfl, ?_, ?_, ?_⟩
    · rw [hN, ncells_append, List.length_append]
      exact own_base hown3 hsz
    · have hz3 := ht3.size
      exact (hb.trans (hb2.mono hsz)).trans (((Below.refl w.heap.size w2).alloc (by omega) _).trans (ht3.below (by simp; omega) (fun k hk h => by have := (hown2.lt k h).1; omega)))
    · rw [hN]; simp [hne3]
  · have hv := hnil.2 ((spans_nil_iff f).2 hw)
    subst hv
    have HW := Lib.hid hw
    clear hw hnil hown
    go_wp2
    go_ret
    have hN : neg f = [] := by rw [neg, if_neg HW.out]
    exact ⟨_, rfl, by rw [hN]; exact World.ownsRow_nil _ _ _ _, hb, by simp [hN]⟩

set_option maxHeartbeats 1000000 in
theorem NotR_any (A : Option Addr) (c : Nat) (f : List Nd) (w : World) (B : Nat) (hf : Sl w B 2 A f.length c (ncells f)) (hB : B ≤ w.heap.size) (hl : f.length ≤ 1000000) :
    Calls Try.prog 34 #[.slice A f.length c] w (NewRow w 44 2 (neg f).length (ncells (neg f)) (neg f = [])) := by
  by_cases hw : wrong f = 0
  · have hw' : (wrong f == 0) = true := by simp [hw]
    have HW := Lib.hid hw
    clear hw
    have hb0 : ∀ w : World, (w.alloc (.cells #[] 44)).ownsRow w.heap.size 44 2 (.slice (some ⟨w.heap.size, 0, none⟩) 0 0) 0 [] :=
      fun w => World.ownsRow_made w #[] 0 (Nat.le_refl _) (by unfold maxLen; omega) (by simp)
    go_enter Try.func34, Try.ntmps34
    go_wp2_with (first | (go_at_call 17; refine (Is_any A c f w B hf (by omega)).mono ?_; rintro e w' ⟨rfl, rfl⟩) | (at_builtin; refine wpList_extend rfl (.tmp 6) (.tmp 7) 22 rfl w.heap.size 44 2 16 sliceNd _ _ _ (hb0 w) rfl B A f.length c (ncells f) rfl (hf.below ((Below.refl w.heap.size w).alloc (Nat.le_refl _) _) hB) (ncells_one f) (by omega) (by omega) (by simp) ?_; intro v2 w2 hown2 ht2 hat2 hnil2; have hs2 := ht2.size; simp only [World.size_alloc] at hs2) | (at_builtin; refine wpList_push rfl (.tmp 8) (.tmp 10) 22 rfl w.heap.size 44 2 16 sliceNd _ _ _ (hown2.alloc _) rfl w2.heap.size #[.int .i64 4, .int .i64 0] rfl (heap_alloc_new w2 _) rfl (by simp [Value.oneCell']) (by omega) (by omega) (by simp; omega) ?_; intro v3 w3 hown3 ht3 hat3 hne3))
    go_ret
    have hN : neg f = f ++ [⟨4, 0⟩] := by rw [neg, if_pos HW.out]
    refine ⟨v3, rfl, ?_, ?_, ?_⟩
    · rw [hN, ncells_append, List.length_append]
      simpa [ncells] using hown3
    · have hz3 := ht3.size
      have hb2 : Below w.heap.size w w2 := ((Below.refl w.heap.size w).alloc (Nat.le_refl _) _).trans (ht2.below (by simp) (fun k hk h => by simp [Value.ownBlock] at h; omega))
      exact hb2.trans (((Below.refl w.heap.size w2).alloc (by omega) _).trans (ht3.below (by simp; omega) (fun k hk h => by have := (hown2.lt k h).1; omega)))
    · rw [hN]; simp [hne3]
  · have hw' : (wrong f == 0) = false := by simpa using hw
    have HW := Lib.hid hw
    clear hw
    go_enter Try.func34, Try.ntmps34
    go_wp2_with (first | (go_at_call 17; refine (Is_any A c f w B hf (by omega)).mono ?_; rintro e w' ⟨rfl, rfl⟩))
    go_ret
    have hN : neg f = [] := by rw [neg, if_neg HW.out]
    exact ⟨_, rfl, by rw [hN]; exact World.ownsRow_nil _ _ _ _, Below.refl _ _, by simp [hN]⟩
end Go.Proofs.Ytpjhligbflmeoaa
