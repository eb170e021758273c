/- The walks of layer 27: Check, Len, At, of the program and of the reference. -/
import Derived.Test.YtkikkplpalabhaaRowsB
import Derived.Test.YtkikkplpalabhaaMp
import Derived.Test.YtkikkplpalabhaaMa
import Derived.Deep.QuietTactic
import Derived.BigQuiet
import Derived.IntWalk
import Derived.Outline
namespace Go.Proofs.Ytkikkplpalabhaa
open Go.RowKit

def checkW (st lo : List Int) : Int := if lo = [] then 8 else if 65536 < st.length + lo.length then 11 else 0
def atW (st lo : List Int) (i : Int) : Int := if i < 0 then 0 else seqW st lo i.toNat
/-- A word's sets, read. -/
structure WRd (w : World) (B : Nat) (A1 A2 : Option Addr) (n1 c1 n2 c2 : Nat) (st lo : List Int) : Prop where
  s1 : Sl w B 1 A1 n1 c1 (ucells st)
  s2 : Sl w B 1 A2 n2 c2 (ucells lo)
  l1 : n1 = st.length
  l2 : n2 = lo.length
theorem WRd.below {w w' : World} {B B' n1 c1 n2 c2 : Nat} {A1 A2 : Option Addr} {st lo : List Int} (h : WRd w B A1 A2 n1 c1 n2 c2 st lo) (hb : Below B' w w') (hB : B ≤ B') : WRd w' B A1 A2 n1 c1 n2 c2 st lo :=
  ⟨h.s1.below hb hB, h.s2.below hb hB, h.l1, h.l2⟩
theorem WRd.up {w : World} {B B' n1 c1 n2 c2 : Nat} {A1 A2 : Option Addr} {st lo : List Int} (h : WRd w B A1 A2 n1 c1 n2 c2 st lo) (hB : B ≤ B') : WRd w B' A1 A2 n1 c1 n2 c2 st lo := ⟨h.s1.up hB, h.s2.up hB, h.l1, h.l2⟩
theorem rd_u {w : World} {B : Nat} {A : Option Addr} {n c : Nat} {l : List Int} (h : Sl w B 1 A n c (ucells l)) {k : Nat} (hk : k < l.length) : ∃ b o, A = some ⟨b, o, none⟩ ∧ b < B ∧ w.cell? ⟨b, o + k, none⟩ = some (.int .u64 (l.getD k 0)) :=
  h.rd.at_ (ucells_at hk)
/-- The word's box. -/
theorem wbox (w : World) (A1 A2 : Option Addr) (n1 c1 n2 c2 : Nat) : Below w.heap.size w (w.alloc (.cells #[.slice A1 n1 c1, .slice A2 n2 c2] 34)) ∧ (w.alloc (.cells #[.slice A1 n1 c1, .slice A2 n2 c2] 34)).cell? ⟨w.heap.size, 0, none⟩ = some (.slice A1 n1 c1) ∧
    (w.alloc (.cells #[.slice A1 n1 c1, .slice A2 n2 c2] 34)).cell? ⟨w.heap.size, 1, none⟩ = some (.slice A2 n2 c2) :=
  ⟨(Below.refl _ _).alloc (Nat.le_refl _) _, by rw [cell_of_row _ _ _ _ _ (0, 0) (heap_alloc_new w _)]; rfl, by rw [cell_of_row _ _ _ _ _ (0, 0) (heap_alloc_new w _)]; rfl⟩

set_option maxHeartbeats 400000 in
theorem pCheck_any (A1 A2 : Option Addr) (n1 c1 n2 c2 : Nat) (st lo : List Int) (w : World) (hn1 : n1 = st.length) (hn2 : n2 = lo.length) (hl : n1 + n2 ≤ 60000) :
    Calls Try.prog 30 #[.agg #[.slice A1 n1 c1, .slice A2 n2 c2]] w (Num w (if n2 = 0 then 8 else 0)) := by
  have hb := (wbox w A1 A2 n1 c1 n2 c2).1
  by_cases h0 : n2 = 0
  · have d : ((n2 : Int) == 0) = true := by simp [h0]
    rw [if_pos h0]
    clear h0 hn1 hn2
    go_enter Try.func30, Try.ntmps30
    go_wp2
    go_ret
    exact ⟨rfl, hb⟩
  · have d : ((n2 : Int) == 0) = false := by simpa using h0
    have d2 : decide ((65536 : Int) < (n1 : Int) + (n2 : Int)) = false := by simp; omega
    rw [if_neg h0]
    clear h0 hn1 hn2
    go_enter Try.func30, Try.ntmps30
    go_wp2
    go_ret
    exact ⟨rfl, hb⟩
theorem pLen_any (A1 A2 : Option Addr) (n1 c1 n2 c2 : Nat) (w : World) (hl : n1 + n2 ≤ 60000) :
    Calls Try.prog 32 #[.agg #[.slice A1 n1 c1, .slice A2 n2 c2]] w (Num w ((n1 + n2 : Nat) : Int)) := by
  have hb := (wbox w A1 A2 n1 c1 n2 c2).1
  go_enter Try.func32, Try.ntmps32
  go_wp2
  go_ret
  exact ⟨ret_int (by omega), hb⟩
set_option maxHeartbeats 1000000 in
theorem pAt_any (A1 A2 : Option Addr) (n1 c1 n2 c2 : Nat) (st lo : List Int) (i : Int) (w : World) (B : Nat) (h : WRd w B A1 A2 n1 c1 n2 c2 st lo) (hB : B ≤ w.heap.size) (_hl : n1 + n2 ≤ 60000) (hi : i ≤ 9223372036854775807) :
    Calls Try.prog 34 #[.agg #[.slice A1 n1 c1, .slice A2 n2 c2], .int .i64 i] w (NumU w (atW st lo i)) := by
  obtain ⟨hb, hx1, hx2⟩ := wbox w A1 A2 n1 c1 n2 c2
  have h1 := h.below hb hB
  have hn1 := h.l1
  have hn2 := h.l2
  clear hx1 hx2 h
  by_cases h0 : i < 0
  · have d : decide (i < 0) = true := by simpa using h0
    have e : atW st lo i = 0 := by rw [atW, if_pos h0]
    rw [e]
    clear e h0 hn1 hn2 h1
    go_enter Try.func34, Try.ntmps34
    go_wp2
    go_ret
    exact ⟨rfl, hb⟩
  obtain ⟨k, rfl⟩ := Int.eq_ofNat_of_zero_le (show 0 ≤ i by omega)
  have e : atW st lo (k : Int) = seqW st lo k := by rw [atW, if_neg h0, Int.toNat_natCast]
  rw [e]
  clear e h0
  by_cases hk : k < n1
  · have hks : k < st.length := by omega
    obtain ⟨b, o, rfl, hbB, hc⟩ := rd_u h1.s1 hks
    rw [seqW_stem hks]
    clear hn1 hn2 h1 hks
    generalize st.getD k 0 = x at *
    have d : (k : Int) < (n1 : Int) := by omega
    go_enter Try.func34, Try.ntmps34
    go_wp2
    go_ret
    exact ⟨rfl, hb⟩
  have d0 : decide (k < n1) = false := by simpa using hk
  by_cases h2 : n2 = 0
  · have d : ((n2 : Int) == 0) = true := by simp [h2]
    have hlo : lo = [] := List.eq_nil_of_length_eq_zero (by omega)
    have e : seqW st lo k = 0 := by rw [seqW_loop (by omega), hlo]; rfl
    rw [e]
    clear e hlo h2 hn1 hn2 h1
    go_enter Try.func34, Try.ntmps34
    go_wp2
    go_ret
    exact ⟨rfl, hb⟩
  · have d : ((n2 : Int) == 0) = false := by simpa using h2
    have hm := Nat.mod_lt (k - n1) (show 0 < n2 by omega)
    have hkl : (k - n1) % n2 < lo.length := by omega
    obtain ⟨b, o, rfl, hbB, hc⟩ := rd_u h1.s2 hkl
    have e : seqW st lo k = lo.getD ((k - n1) % n2) 0 := by rw [seqW_loop (by omega), hn1, hn2]
    rw [e]
    obtain ⟨j, hj⟩ : ∃ j, j = k - n1 := ⟨_, rfl⟩
    rw [← hj] at hm hc ⊢
    have e1 : IntKind.i64.wrap ((k : Int) - (n1 : Int)) = (j : Int) := by rw [IntWalk.i64_in _ (by omega)]; omega
    have e2 : ((j : Int)).tmod (n2 : Int) = ((j % n2 : Nat) : Int) := by rw [Int.tmod_eq_emod_of_nonneg (by omega)]; omega
    have hpos : (0 : Int) < (n2 : Int) := by omega
    generalize lo.getD (j % n2) 0 = x at *
    generalize j % n2 = r at *
    have i1 : (r : Int) < (n2 : Int) := by omega
    have hn0 : ¬ ((n2 : Int) = 0) := by omega
    have E1 := Lib.hid e1
    have E2 := Lib.hid e2
    clear e hn1 hn2 h1 hj e1 e2 hkl h2
    go_enter Try.func34, Try.ntmps34
    go_wp2
    have e1 := E1.out
    have e2 := E2.out
    go_quiet (fail)
    clear e1 e2
    go_wp2
    go_ret
    exact ⟨rfl, below_drewN hb _⟩

set_option maxHeartbeats 400000 in
theorem rCheck_any (A1 A2 : Option Addr) (n1 c1 n2 c2 : Nat) (st lo : List Int) (w : World) (hn1 : n1 = st.length) (hn2 : n2 = lo.length) (hl : n1 + n2 ≤ 60000) :
    Calls Try.prog 31 #[.agg #[.slice A1 n1 c1, .slice A2 n2 c2]] w (Num w (if n2 = 0 then 8 else 0)) := by
  have hb := (wbox w A1 A2 n1 c1 n2 c2).1
  by_cases h0 : n2 = 0
  · have d : ((n2 : Int) == 0) = true := by simp [h0]
    rw [if_pos h0]
    clear h0 hn1 hn2
    go_enter Try.func31, Try.ntmps31
    go_wp2
    go_ret
    exact ⟨rfl, hb⟩
  · have d : ((n2 : Int) == 0) = false := by simpa using h0
    have d2 : decide ((65536 : Int) < (n1 : Int) + (n2 : Int)) = false := by simp; omega
    rw [if_neg h0]
    clear h0 hn1 hn2
    go_enter Try.func31, Try.ntmps31
    go_wp2
    go_ret
    exact ⟨rfl, hb⟩
theorem rLen_any (A1 A2 : Option Addr) (n1 c1 n2 c2 : Nat) (w : World) (hl : n1 + n2 ≤ 60000) :
    Calls Try.prog 33 #[.agg #[.slice A1 n1 c1, .slice A2 n2 c2]] w (Num w ((n1 + n2 : Nat) : Int)) := by
  have hb := (wbox w A1 A2 n1 c1 n2 c2).1
  go_enter Try.func33, Try.ntmps33
  go_wp2
  go_ret
  exact ⟨ret_int (by omega), hb⟩
set_option maxHeartbeats 1000000 in
theorem rAt_any (A1 A2 : Option Addr) (n1 c1 n2 c2 : Nat) (st lo : List Int) (i : Int) (w : World) (B : Nat) (h : WRd w B A1 A2 n1 c1 n2 c2 st lo) (hB : B ≤ w.heap.size) (_hl : n1 + n2 ≤ 60000) (hi : i ≤ 9223372036854775807) :
    Calls Try.prog 35 #[.agg #[.slice A1 n1 c1, .slice A2 n2 c2], .int .i64 i] w (NumU w (atW st lo i)) := by
  obtain ⟨hb, hx1, hx2⟩ := wbox w A1 A2 n1 c1 n2 c2
  have h1 := h.below hb hB
  have hn1 := h.l1
  have hn2 := h.l2
  clear hx1 hx2 h
  by_cases h0 : i < 0
  · have d : decide (i < 0) = true := by simpa using h0
    have e : atW st lo i = 0 := by rw [atW, if_pos h0]
    rw [e]
    clear e h0 hn1 hn2 h1
    go_enter Try.func35, Try.ntmps35
    go_wp2
    go_ret
    exact ⟨rfl, hb⟩
  obtain ⟨k, rfl⟩ := Int.eq_ofNat_of_zero_le (show 0 ≤ i by omega)
  have e : atW st lo (k : Int) = seqW st lo k := by rw [atW, if_neg h0, Int.toNat_natCast]
  rw [e]
  clear e h0
  by_cases hk : k < n1
  · have hks : k < st.length := by omega
    obtain ⟨b, o, rfl, hbB, hc⟩ := rd_u h1.s1 hks
    rw [seqW_stem hks]
    clear hn1 hn2 h1 hks
    generalize st.getD k 0 = x at *
    have d : (k : Int) < (n1 : Int) := by omega
    go_enter Try.func35, Try.ntmps35
    go_wp2
    go_ret
    exact ⟨rfl, hb⟩
  have d0 : decide (k < n1) = false := by simpa using hk
  by_cases h2 : n2 = 0
  · have d : ((n2 : Int) == 0) = true := by simp [h2]
    have hlo : lo = [] := List.eq_nil_of_length_eq_zero (by omega)
    have e : seqW st lo k = 0 := by rw [seqW_loop (by omega), hlo]; rfl
    rw [e]
    clear e hlo h2 hn1 hn2 h1
    go_enter Try.func35, Try.ntmps35
    go_wp2
    go_ret
    exact ⟨rfl, hb⟩
  · have d : ((n2 : Int) == 0) = false := by simpa using h2
    have hm := Nat.mod_lt (k - n1) (show 0 < n2 by omega)
    have hkl : (k - n1) % n2 < lo.length := by omega
    obtain ⟨b, o, rfl, hbB, hc⟩ := rd_u h1.s2 hkl
    have e : seqW st lo k = lo.getD ((k - n1) % n2) 0 := by rw [seqW_loop (by omega), hn1, hn2]
    rw [e]
    obtain ⟨j, hj⟩ : ∃ j, j = k - n1 := ⟨_, rfl⟩
    rw [← hj] at hm hc ⊢
    have e1 : IntKind.i64.wrap ((k : Int) - (n1 : Int)) = (j : Int) := by rw [IntWalk.i64_in _ (by omega)]; omega
    have e2 : ((j : Int)).tmod (n2 : Int) = ((j % n2 : Nat) : Int) := by rw [Int.tmod_eq_emod_of_nonneg (by omega)]; omega
    have hpos : (0 : Int) < (n2 : Int) := by omega
    generalize lo.getD (j % n2) 0 = x at *
    generalize j % n2 = r at *
    have i1 : (r : Int) < (n2 : Int) := by omega
    have hn0 : ¬ ((n2 : Int) = 0) := by omega
    have E1 := Lib.hid e1
    have E2 := Lib.hid e2
    clear e hn1 hn2 h1 hj e1 e2 hkl h2
    go_enter Try.func35, Try.ntmps35
    go_wp2
    have e1 := E1.out
    have e2 := E2.out
    go_quiet (fail)
    clear e1 e2
    go_wp2
    go_ret
    exact ⟨rfl, below_drewN hb _⟩

end Go.Proofs.Ytkikkplpalabhaa
