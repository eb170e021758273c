/- The shortest form of a word, as the program finds it. -/
import Derived.Test.YtkikkplpalabhaaMp
namespace Go.Proofs.Ytkikkplpalabhaa

/-- The stem rolled up so far. -/
structure NI (st lo : List Int) (m a : Nat) : Prop where
  le : m ≤ st.length
  lt : a < periodL lo
  ro : roll (seqW st lo) (periodL lo) st.length = roll (seqW st lo) (periodL lo) m
  at_ : ∀ j, j < periodL lo → seqW st lo (m + j) = lo.getD ((a + j) % periodL lo) 0
theorem NI.start {st lo : List Int} (h : lo ≠ []) : NI st lo st.length 0 := by
  have p1 := period_spec h
  refine ⟨Nat.le_refl _, p1.1, rfl, fun j hj => ?_⟩
  have hjl : j < lo.length := by have := p1.2.1; omega
  rw [seqW_loop (by omega), show st.length + j - st.length = j by omega, Nat.mod_eq_of_lt hjl, Nat.zero_add, Nat.mod_eq_of_lt hj]
theorem NI.last {st lo : List Int} {m a : Nat} (hi : NI st lo (m + 1) a) : seqW st lo (m + periodL lo) = lo.getD ((a + periodL lo - 1) % periodL lo) 0 := by
  have hp := hi.lt
  have := hi.at_ (periodL lo - 1) (by omega)
  rw [show m + 1 + (periodL lo - 1) = m + periodL lo by omega, show a + (periodL lo - 1) = a + periodL lo - 1 by omega] at this
  exact this
theorem NI.step {st lo : List Int} {m a : Nat} (hi : NI st lo (m + 1) a) (he : st.getD m 0 = lo.getD ((a + periodL lo - 1) % periodL lo) 0) : NI st lo m ((a + periodL lo - 1) % periodL lo) := by
  have hp := hi.lt
  have hle := hi.le
  have hs : seqW st lo m = st.getD m 0 := seqW_stem (by omega)
  have e : seqW st lo m = seqW st lo (m + periodL lo) := by rw [hi.last, hs, he]
  refine ⟨by omega, Nat.mod_lt _ (by omega), ?_, fun j hj => ?_⟩
  · rw [hi.ro, roll, if_pos e]
  · rw [Nat.mod_add_mod]
    rcases j with _ | j
    · rw [Nat.add_zero, Nat.add_zero, e, hi.last]
    · have := hi.at_ j (by omega)
      rw [show m + (j + 1) = m + 1 + j by omega, this, show a + periodL lo - 1 + (j + 1) = a + j + periodL lo by omega, Nat.add_mod_right]
theorem NI.stop {st lo : List Int} {m a : Nat} (hi : NI st lo (m + 1) a) (hne : st.getD m 0 ≠ lo.getD ((a + periodL lo - 1) % periodL lo) 0) : stemN st lo = m + 1 := by
  have hle := hi.le
  have hs : seqW st lo m = st.getD m 0 := seqW_stem (by omega)
  rw [stemN, hi.ro, roll, if_neg (by rw [hi.last, hs]; exact hne)]
theorem NI.zero {st lo : List Int} {a : Nat} (hi : NI st lo 0 a) : stemN st lo = 0 := by rw [stemN, hi.ro, roll]
theorem NI.stem {st lo : List Int} {m a : Nat} (hi : NI st lo m a) (hs : stemN st lo = m) : (normL st lo).1 = st.take m := by
  have hle := hi.le
  rw [normL, hs]
  refine List.ext_getElem (by rw [partW_len]; simp; omega) (fun i h1 h2 => ?_)
  have hi' : i < m := by simpa [partW_len] using h1
  simp only [partW, List.getElem_map, List.getElem_range, Nat.zero_add, List.getElem_take]
  rw [seqW_stem (by omega)]
  simp [List.getD, show i < st.length by omega]
theorem NI.loop {st lo : List Int} {m a : Nat} (h : lo ≠ []) (hi : NI st lo m a) (hs : stemN st lo = m) : (normL st lo).2 = (lo.take (periodL lo)).drop a ++ (lo.take (periodL lo)).take a := by
  have hlt := hi.lt
  have hpl : periodL lo ≤ lo.length := (period_spec h).2.1
  have hln : (lo.take (periodL lo)).length = periodL lo := by simp; omega
  rw [normL, hs]
  refine List.ext_getElem (by rw [partW_len]; simp; omega) (fun i h1 h2 => ?_)
  have hi' : i < periodL lo := by rw [partW_len] at h1; omega
  have hr := rot_get (lo := lo.take (periodL lo)) (r := a) (i := i) (by omega) (by omega)
  rw [hln] at hr
  have hm := Nat.mod_lt (a + i) (show 0 < periodL lo by omega)
  have e1 : ((lo.take (periodL lo)).drop a ++ (lo.take (periodL lo)).take a)[i] = ((lo.take (periodL lo)).drop a ++ (lo.take (periodL lo)).take a).getD i 0 := by
    rw [List.getD_eq_getElem?_getD, List.getElem?_eq_getElem h2]; rfl
  rw [e1, hr]
  simp only [partW, List.getElem_map, List.getElem_range]
  rw [hi.at_ i hi', List.getD_eq_getElem?_getD, List.getD_eq_getElem?_getD, List.getElem?_take, if_pos hm]
/-- P27.3 for what is no word, too. -/
def normP (st lo : List Int) : List Int × List Int := if lo = [] then (st, lo) else normL st lo
def shiftP (st lo : List Int) (n : Int) : List Int × List Int := if lo = [] then (st, lo) else shiftL st lo n.toNat
end Go.Proofs.Ytkikkplpalabhaa
