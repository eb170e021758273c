/- Sets as words and as lists of bools: what they have, their numbers in order, how many. Plain but for the words' names. -/
import Derived.Test.YtikhlcdgibnolaaDoorTzP
import Derived.Test.YtikhlcdgibnolaaDoorBw3
namespace Go.Proofs.YtikhlcdgibnolaaDoor

/-- The reference's numbers of a list. -/
def allL (x : List Bool) : List Nat := (List.range x.length).filter (fun i => x.getD i false)
/-- The numbers of a set's words. -/
def numsW (W : List Nat) : List Nat := (List.range (64 * W.length)).filter (bitOf W)
/-- The numbers of words from the k-th on, word by word. -/
def numsK (W : List Nat) (k : Nat) : List Nat := (List.range k).flatMap fun j => (bitsL (W.getD j 0)).map (fun i => j * 64 + i)
theorem numsK_succ (W : List Nat) (k : Nat) : numsK W (k + 1) = numsK W k ++ (bitsL (W.getD k 0)).map (fun i => k * 64 + i) := by
  simp [numsK, List.range_succ]
theorem numsK_range (W : List Nat) : ∀ k, numsK W k = (List.range (64 * k)).filter (bitOf W)
  | 0 => by simp [numsK]
  | k + 1 => by
    have hr : List.range (64 * (k + 1)) = List.range (64 * k) ++ (List.range 64).map (fun i => k * 64 + i) := by
      rw [show 64 * (k + 1) = 64 * k + 64 by omega, List.range_add]
      congr 1
      exact List.map_congr_left (fun i _ => by omega)
    rw [numsK_succ, numsK_range W k, hr, List.filter_append, List.filter_map]
    congr 1
    unfold bitsL
    congr 1
    apply List.filter_congr
    intro i hi
    have hi := List.mem_range.1 hi
    simp only [Function.comp, bitOf]
    rw [show (k * 64 + i) / 64 = k by omega, show (k * 64 + i) % 64 = i by omega]
theorem numsW_all (W : List Nat) : numsK W W.length = numsW W := numsK_range W W.length
theorem cntW_nums (W : List Nat) : cntW W = (numsW W).length := by
  rw [← numsW_all]
  have key : ∀ k, k ≤ W.length → cntW (W.take k) = (numsK W k).length := by
    intro k
    induction k with
    | zero => intro _; simp [cntW, numsK]
    | succ k ih =>
      intro hk
      rw [cntW_snoc (by omega), ih (by omega), numsK_succ, List.length_append, List.length_map]
      congr 1
      rw [pc, bitsL, List.countP_eq_length_filter]
  have := key W.length (Nat.le_refl _)
  rwa [List.take_length] at this
/-- Words and a list of bools say the same. -/
structure SameW (n : Nat) (W : List Nat) (x : List Bool) : Prop where
  len : x.length = n
  wl : W.length = (n + 63) / 64
  bit : ∀ i, bitOf W i = x.getD i false
theorem SameW.nums {n : Nat} {W : List Nat} {x : List Bool} (h : SameW n W x) : numsW W = allL x := by
  have hn : n ≤ 64 * W.length := by have := h.wl; omega
  rw [numsW, allL, h.len, show 64 * W.length = n + (64 * W.length - n) by omega, List.range_add, List.filter_append]
  have e : ((List.range (64 * W.length - n)).map (fun i => n + i)).filter (bitOf W) = [] := by
    rw [List.filter_eq_nil_iff]
    intro i hi
    obtain ⟨j, _, rfl⟩ := List.mem_map.1 hi
    rw [h.bit, List.getD_eq_getElem?_getD, List.getElem?_eq_none (by rw [h.len]; omega)]
    simp
  rw [e, List.append_nil]
  exact List.filter_congr (fun i _ => h.bit i)
theorem SameW.start (n : Nat) : SameW n (List.replicate ((n + 63) / 64) 0) (List.replicate n false) := by
  refine ⟨by simp, by simp, fun i => ?_⟩
  have e1 : (List.replicate ((n + 63) / 64) 0).getD (i / 64) 0 = 0 := by
    rw [List.getD_eq_getElem?_getD]
    by_cases h : i / 64 < (n + 63) / 64
    · simp [h]
    · rw [List.getElem?_eq_none (by simp; omega)]; rfl
  rw [bitOf, e1, List.getD_eq_getElem?_getD]
  by_cases h : i < n
  · simp [h]
  · rw [List.getElem?_eq_none (by simp; omega)]; simp
theorem bit_set {W : List Nat} {i j y : Nat} (hi : i / 64 < W.length) : bitOf (W.set (i / 64) y) j = if j / 64 = i / 64 then y.testBit (j % 64) else bitOf W j := by
  unfold bitOf
  rw [List.getD_eq_getElem?_getD, List.getElem?_set]
  by_cases h : i / 64 = j / 64
  · rw [if_pos h, if_pos h.symm]
    simp [hi]
  · rw [if_neg h, if_neg (fun e => h e.symm), ← List.getD_eq_getElem?_getD]
theorem SameW.put {n : Nat} {W : List Nat} {x : List Bool} (h : SameW n W x) {i : Nat} (hi : i < n) : SameW n (putW W i) (x.set i true) := by
  have hl : i / 64 < W.length := by rw [h.wl]; omega
  have key : ∀ j, bitOf (putW W i) j = (bitOf W j || decide (j = i)) := by
    intro j
    unfold putW
    by_cases hb : bitOf W i = true
    · rw [if_pos hb]
      by_cases e : j = i
      · subst e; simp [hb]
      · simp [e]
    · rw [if_neg hb, bit_set hl]
      by_cases e : j / 64 = i / 64
      · rw [if_pos e, Nat.testBit_or, Nat.testBit_two_pow]
        unfold bitOf
        rw [e]
        congr 1
        rw [decide_eq_decide]
        omega
      · rw [if_neg e]
        have : j ≠ i := fun hh => e (by rw [hh])
        simp [this]
  refine ⟨by rw [List.length_set, h.len], ?_, fun j => ?_⟩
  · unfold putW; split <;> simp [h.wl]
  · rw [key, h.bit, List.getD_eq_getElem?_getD, List.getD_eq_getElem?_getD, List.getElem?_set]
    by_cases e : i = j
    · subst e
      simp [show i < x.length by rw [h.len]; exact hi]
    · have : j ≠ i := fun hh => e hh.symm
      simp [e, this]
theorem SameW.drop {n : Nat} {W : List Nat} {x : List Bool} (h : SameW n W x) (hW : ∀ y ∈ W, y < 2 ^ 64) {i : Nat} (hi : i < n) : SameW n (dropW W i) (x.set i false) := by
  have hl : i / 64 < W.length := by rw [h.wl]; omega
  have hx : W.getD (i / 64) 0 < 2 ^ 64 := by
    rw [List.getD_eq_getElem?_getD, List.getElem?_eq_getElem hl]
    exact hW _ (List.getElem_mem hl)
  have hp : 2 ^ (i % 64) < 2 ^ 64 := Nat.pow_lt_pow_right (by omega) (Nat.mod_lt _ (by omega))
  have key : ∀ j, bitOf (dropW W i) j = (bitOf W j && decide (j ≠ i)) := by
    intro j
    unfold dropW
    rw [bit_set hl]
    by_cases e : j / 64 = i / 64
    · rw [if_pos e, bare64_bit hx hp, Nat.testBit_two_pow]
      unfold bitOf
      rw [e]
      congr 1
      by_cases hji : j = i
      · subst hji; simp
      · have : ¬ i % 64 = j % 64 := by omega
        simp [hji, this]
    · rw [if_neg e]
      have : j ≠ i := fun hh => e (by rw [hh])
      simp [this]
  refine ⟨by rw [List.length_set, h.len], by simp [dropW, h.wl], fun j => ?_⟩
  rw [key, h.bit, List.getD_eq_getElem?_getD, List.getD_eq_getElem?_getD, List.getElem?_set]
  by_cases e : i = j
  · subst e
    simp [show i < x.length by rw [h.len]; exact hi]
  · have : j ≠ i := fun hh => e hh.symm
    simp [e, this]
end Go.Proofs.YtikhlcdgibnolaaDoor
