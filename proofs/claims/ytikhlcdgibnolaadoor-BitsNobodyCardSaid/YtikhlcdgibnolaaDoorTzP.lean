/- The digits of a number that are 1, rising; the lowest one taken off. Plain. -/
import Derived.Lib.TrailingZeros
namespace Go.Proofs.YtikhlcdgibnolaaDoor

def bitsL (x : Nat) : List Nat := (List.range 64).filter x.testBit
theorem bitsL_zero : bitsL 0 = [] := by simp [bitsL]
theorem ctz_form {x : Nat} (h0 : x ≠ 0) (h : x < 2 ^ 64) : ∃ m, x = 2 ^ Lib.ctz 64 x * (2 * m + 1) ∧ Lib.ctz 64 x < 64 := by
  have e : Lib.ctz 64 x = Lib.ctzFrom 64 x := by simp [Lib.ctz, h0]
  rw [e]
  exact Lib.ctzFrom_spec 64 x (by omega) h
theorem odd_bits {k m i : Nat} : (2 ^ k * (2 * m + 1)).testBit i = (decide (k ≤ i) && (decide (i = k) || (2 * m).testBit (i - k))) := by
  rw [Nat.mul_comm, Nat.testBit_mul_two_pow]
  by_cases h : k ≤ i
  · simp only [h, decide_true, Bool.true_and]
    obtain ⟨j, rfl⟩ : ∃ j, i = k + j := ⟨i - k, by omega⟩
    rw [show k + j - k = j by omega]
    rcases j with _ | j
    · simp
    · rw [Nat.testBit_succ, Nat.testBit_succ, show (2 * m + 1) / 2 = m by omega, show 2 * m / 2 = m by omega]
      have : ¬ (k + (j + 1) = k) := by omega
      simp
  · simp [h]
theorem off_bits {x i : Nat} (h0 : x ≠ 0) (h : x < 2 ^ 64) : (x &&& (x - 1)).testBit i = (x.testBit i && decide (i ≠ Lib.ctz 64 x)) := by
  obtain ⟨m, hm, hk⟩ := ctz_form h0 h
  generalize Lib.ctz 64 x = k at *
  have hx1 : x - 1 = 2 ^ k * (2 * m) + (2 ^ k - 1) := by
    have := Nat.two_pow_pos k
    rw [hm, Nat.mul_add]
    omega
  rw [Nat.testBit_and, hx1, Nat.testBit_two_pow_mul_add _ (by have := Nat.two_pow_pos k; omega), hm, odd_bits]
  by_cases hi : i < k
  · have : ¬ k ≤ i := by omega
    simp [this]
  · have hki : k ≤ i := by omega
    by_cases he : i = k
    · subst he
      simp [Nat.testBit_zero]
    · simp [hi, hki, he]
theorem off_lt {x : Nat} (h : x < 2 ^ 64) : x &&& (x - 1) < 2 ^ 64 := Nat.lt_of_le_of_lt Nat.and_le_left h
/-- The lowest digit, then the others. -/
theorem bits_step {x : Nat} (h0 : x ≠ 0) (h : x < 2 ^ 64) : bitsL x = Lib.ctz 64 x :: bitsL (x &&& (x - 1)) := by
  obtain ⟨m, hm, hk⟩ := ctz_form h0 h
  have hoff := fun i => off_bits (i := i) h0 h
  have hlow : ∀ i, i < Lib.ctz 64 x → x.testBit i = false := by
    intro i hi
    rw [hm, odd_bits]
    have : ¬ Lib.ctz 64 x ≤ i := by omega
    simp [this]
  have hat : x.testBit (Lib.ctz 64 x) = true := by
    have h2 := odd_bits (k := Lib.ctz 64 x) (m := m) (i := Lib.ctz 64 x)
    rw [← hm] at h2
    rw [h2]; simp
  generalize Lib.ctz 64 x = k at *
  have hr : List.range 64 = List.range k ++ (k :: List.range' (k + 1) (63 - k)) := by
    have h1 : List.range 64 = List.range k ++ List.range' k (64 - k) := by
      rw [List.range_eq_range', List.range_eq_range', show 64 = k + (64 - k) by omega, ← List.range'_append_1]
      simp
    rw [h1, show 64 - k = (63 - k) + 1 by omega, List.range'_succ]
  unfold bitsL
  rw [hr, List.filter_append, List.filter_append, List.filter_cons, List.filter_cons]
  have e1 : (List.range k).filter x.testBit = [] := by
    rw [List.filter_eq_nil_iff]
    intro i hi
    rw [hlow i (List.mem_range.1 hi)]; simp
  have e2 : (List.range k).filter (x &&& (x - 1)).testBit = [] := by
    rw [List.filter_eq_nil_iff]
    intro i hi
    rw [hoff, hlow i (List.mem_range.1 hi)]; simp
  have e3 : (List.range' (k + 1) (63 - k)).filter (x &&& (x - 1)).testBit = (List.range' (k + 1) (63 - k)).filter x.testBit := by
    apply List.filter_congr
    intro i hi
    rw [hoff]
    have := (List.mem_range'_1.1 hi).1
    have : i ≠ k := by omega
    simp [this]
  rw [e1, e2, e3, hat, hoff k]
  simp
theorem bitsL_snoc (x : Nat) (k : Nat) : (List.range (k + 1)).filter x.testBit = (List.range k).filter x.testBit ++ (if x.testBit k then [k] else []) := by
  rw [List.range_succ, List.filter_append]
  congr 1
  by_cases h : x.testBit k = true
  · simp [h]
  · simp [h]
end Go.Proofs.YtikhlcdgibnolaaDoor
