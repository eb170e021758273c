/- What a word satisfies, from a place on, in its shortest form, with its loop once more. Plain. -/
import Derived.Test.YtkikkplpalabhaaWr10
import Derived.Test.YtkikkplpalabhaaWdF
namespace Go.Proofs.Ytkikkplpalabhaa

theorem seqW_hpl {st lo : List Int} (h : lo ≠ []) (i : Nat) : seqW st lo (hpl st.length (st.length + lo.length) i) = seqW st lo i := by
  have hlp : st.length < st.length + lo.length := by have := List.length_pos_iff.2 h; omega
  rw [← seqW_list h (hpl st.length (st.length + lo.length) i), hpl_small (hpl_lt hlp i), seqW_list h]
theorem wbit_hpl {st lo : List Int} (h : lo ≠ []) (m : Int) (i : Nat) : wbit st lo m (hpl st.length (st.length + lo.length) i) = wbit st lo m i := by
  unfold wbit; rw [seqW_hpl h]
theorem val_Sat {f : List Nd} {st lo : List Int} (h : lo ≠ []) (hw : wrong f = 0) {k : Nat} (hk : k < st.length + lo.length) : (val (wbit st lo) (st.length + lo.length) st.length (treeOf f)).getD k false = true ↔ Sat (wbit st lo) (treeOf f) k := by
  have hlp : st.length < st.length + lo.length := by have := List.length_pos_iff.2 h; omega
  have h1 := sat_iff (bits := wbit st lo) hlp (treeOf f) (treeOf_ok hw).1 k
  rw [hpl_small hk] at h1
  have h2 := Sat.congr (bit := wbit st lo) (bit' := fun m i => wbit st lo m (hpl st.length (st.length + lo.length) i)) (fun m i => wbit_hpl h m i) (treeOf f) k
  exact h1.trans h2
theorem holds_Sat {f : List Nd} {st lo : List Int} (h : lo ≠ []) (hw : wrong f = 0) : holdsW (wbit st lo) f st lo = true ↔ Sat (wbit st lo) (treeOf f) 0 := by
  rw [holdsW_some h hw]
  exact val_Sat h hw (by have := List.length_pos_iff.2 h; omega)
theorem holds_congr {f : List Nd} {st lo st' lo' : List Int} (h : lo ≠ []) (h' : lo' ≠ []) (hw : wrong f = 0) (hs : ∀ i, seqW st' lo' i = seqW st lo i) : holdsW (wbit st' lo') f st' lo' = holdsW (wbit st lo) f st lo := by
  rw [Bool.eq_iff_iff, holds_Sat h' hw, holds_Sat h hw]
  exact Sat.congr (fun m i => by unfold wbit; rw [hs]) (treeOf f) 0
theorem holds_norm {f : List Nd} {st lo : List Int} (h : lo ≠ []) (hw : wrong f = 0) : holdsW (wbit (normP st lo).1 (normP st lo).2) f (normP st lo).1 (normP st lo).2 = holdsW (wbit st lo) f st lo := by
  rw [normP, if_neg h]
  exact holds_congr h (normL_ne h) hw (fun i => normL_seq h i)
theorem holds_longer {f : List Nd} {st lo : List Int} (h : lo ≠ []) (hw : wrong f = 0) : holdsW (wbit (st ++ lo) lo) f (st ++ lo) lo = holdsW (wbit st lo) f st lo :=
  holds_congr h h hw (fun i => longer_seq h i)
theorem same_longer {st lo : List Int} (h : lo ≠ []) : sameP st lo (st ++ lo) lo = true := by
  rw [sameP, if_neg (fun hh => hh.elim h h), normL_congr h h (fun i => (longer_seq h i).symm)]
  simp
theorem holds_shift {f : List Nd} {st lo : List Int} (h : lo ≠ []) (hw : wrong f = 0) {k : Nat} (hk : k < st.length + lo.length) : (val (wbit st lo) (st.length + lo.length) st.length (treeOf f)).getD k false = holdsW (wbit (shiftP st lo k).1 (shiftP st lo k).2) f (shiftP st lo k).1 (shiftP st lo k).2 := by
  have e : shiftP st lo (k : Int) = shiftL st lo k := by rw [shiftP, if_neg h, Int.toNat_natCast]
  rw [e, Bool.eq_iff_iff, val_Sat h hw hk, holds_Sat (shiftL_ne h k) hw]
  have := Sat.shift (bit := wbit st lo) (bit' := wbit (shiftL st lo k).1 (shiftL st lo k).2) (k := k) (fun m i => by unfold wbit; rw [shiftL_seq h]) (treeOf f) 0
  rw [Nat.zero_add] at this
  exact this.symm
theorem at_shift {st lo : List Int} (h : lo ≠ []) (k : Nat) : atW (shiftP st lo k).1 (shiftP st lo k).2 5 = atW st lo ((k + 5 : Nat) : Int) := by
  have e : shiftP st lo (k : Int) = shiftL st lo k := by rw [shiftP, if_neg h, Int.toNat_natCast]
  rw [e, show (5 : Int) = ((5 : Nat) : Int) from rfl, atW_nat, atW_nat, shiftL_seq h, Nat.add_comm]
end Go.Proofs.Ytkikkplpalabhaa
