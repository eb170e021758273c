/- Layer 27: the reference's answers, read; plain facts of the laws. -/
import Derived.Test.YtkikkplpalabhaaWr9
import Derived.Test.YtkikkplpalabhaaWk17
namespace Go.Proofs.Ytkikkplpalabhaa
open Go.RowKit

/-- A word that can be read, new or not. -/
def RdW (w : World) (p : List Int × List Int) (en : Ending) (w' : World) : Prop :=
  ∃ (D1 : Option Addr) (m1 e1 : Nat) (D2 : Option Addr) (m2 e2 : Nat), en = .returned (.agg #[.slice D1 m1 e1, .slice D2 m2 e2]) ∧ WRd w' w'.heap.size D1 D2 m1 e1 m2 e2 p.1 p.2 ∧ Below w.heap.size w w'
theorem rdw_new {w w' : World} {p : List Int × List Int} {en : Ending} (h : NewWord w p en w') : RdW w p en w' := by
  obtain ⟨v1, v2, rfl, h1, h2, hb⟩ := h
  obtain ⟨A1, c1, rfl, s1⟩ := own_sl h1
  obtain ⟨A2, c2, rfl, s2⟩ := own_sl h2
  exact ⟨A1, _, c1, A2, _, c2, rfl, ⟨s1, s2, rfl, rfl⟩, hb⟩
theorem lo_nil {n2 : Nat} {lo : List Int} (h : n2 = lo.length) : n2 = 0 ↔ lo = [] := by rw [h]; exact List.length_eq_zero_iff
theorem rNormW_any (A1 A2 : Option Addr) (n1 c1 n2 c2 : Nat) (st lo : List Int) (w : World) (B : Nat) (h : WRd w B A1 A2 n1 c1 n2 c2 st lo) (hB : B ≤ w.heap.size) (hl : n1 + n2 ≤ 60000) :
    Calls Try.prog 42 #[.agg #[.slice A1 n1 c1, .slice A2 n2 c2]] w (RdW w (normP st lo)) := by
  by_cases h0 : n2 = 0
  · refine (rNorm0_any A1 A2 n1 c1 n2 c2 st lo w B h hl h0).mono ?_
    rintro e w' ⟨rfl, hb⟩
    rw [normP, if_pos ((lo_nil h.l2).1 h0)]
    exact ⟨A1, n1, c1, A2, n2, c2, rfl, (h.below hb hB).up (Nat.le_trans hB hb.size), hb⟩
  · refine (rNorm_any A1 A2 n1 c1 n2 c2 st lo w B h hB hl h0).mono ?_
    intro e w' hn
    rw [normP, if_neg (fun e => h0 ((lo_nil h.l2).2 e))]
    exact rdw_new hn
theorem rShiftW_any (A1 A2 : Option Addr) (n1 c1 n2 c2 : Nat) (st lo : List Int) (n : Int) (w : World) (B : Nat) (h : WRd w B A1 A2 n1 c1 n2 c2 st lo) (hB : B ≤ w.heap.size) (hl : n1 + n2 ≤ 60000) (hn : n ≤ 9223372036854775807) :
    Calls Try.prog 44 #[.agg #[.slice A1 n1 c1, .slice A2 n2 c2], .int .i64 n] w (RdW w (shiftP st lo n)) := by
  by_cases h0 : n2 = 0
  · refine (rShift0_any A1 A2 n1 c1 n2 c2 st lo n w B h hl h0).mono ?_
    rintro e w' ⟨rfl, hb⟩
    rw [shiftP, if_pos ((lo_nil h.l2).1 h0)]
    exact ⟨A1, n1, c1, A2, n2, c2, rfl, (h.below hb hB).up (Nat.le_trans hB hb.size), hb⟩
  · have e : shiftP st lo n = shiftL st lo n.toNat := by rw [shiftP, if_neg (fun e => h0 ((lo_nil h.l2).2 e))]
    rw [e]
    by_cases hneg : n < 0
    · rw [show n.toNat = 0 by omega]
      exact (rShiftN_any A1 A2 n1 c1 n2 c2 st lo n w B h hB hl h0 hneg).mono (fun e w' hn => rdw_new hn)
    · obtain ⟨k, rfl⟩ := Int.eq_ofNat_of_zero_le (show 0 ≤ n by omega)
      rw [Int.toNat_natCast]
      by_cases hk : k ≤ n1
      · exact (rShiftS_any A1 A2 n1 c1 n2 c2 st lo k w B h hB hl h0 hk).mono (fun e w' hn => rdw_new hn)
      · exact (rShiftL_any A1 A2 n1 c1 n2 c2 st lo k w B h hB hl h0 (by omega) (by omega)).mono (fun e w' hn => rdw_new hn)
theorem normP_twice (st lo : List Int) : normP (normP st lo).1 (normP st lo).2 = normP st lo := by
  by_cases h : lo = []
  · subst h; simp [normP]
  · rw [normP, normP, if_neg h, if_neg (normL_ne h), normL_normL h]
theorem same_norm (st lo : List Int) : sameP st lo (normP st lo).1 (normP st lo).2 = decide (lo ≠ []) := by
  by_cases h : lo = []
  · subst h; simp [sameP]
  · rw [sameP, normP, if_neg h, if_neg (fun hh => hh.elim h (normL_ne h)), normL_normL h]
    simp [h]
theorem normP_len (st lo : List Int) : (normP st lo).1.length ≤ st.length ∧ (normP st lo).2.length ≤ lo.length := by
  by_cases h : lo = []
  · subst h; simp [normP]
  · rw [normP, if_neg h, normL]
    simp only [partW_len]
    refine ⟨?_, ?_⟩
    · have := roll_le (seqW st lo) (periodL lo) st.length
      rw [stemN]; omega
    · have := (period_spec h).2.1
      omega
end Go.Proofs.Ytkikkplpalabhaa
