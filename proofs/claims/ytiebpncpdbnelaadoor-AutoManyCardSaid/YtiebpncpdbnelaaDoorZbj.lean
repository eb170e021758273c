/- Texts that stand one behind the other, in one file. -/
import Derived.Test.YtiebpncpdbnelaaDoorMa
import Derived.Test.YtiebpncpdbnelaaDoorZad
import Derived.Deep.QuietTactic
import Derived.BigQuiet
import Derived.IntWalk
import Derived.Outline
import Derived.Test.YtiebpncpdbnelaaDoorAu4
import Derived.Test.YtiebpncpdbnelaaDoorZbe
namespace Go.Proofs.YtiebpncpdbnelaaDoor
def seqW (st lo : List Int) (i : Nat) : Int := if i < st.length then st.getD i 0 else lo.getD ((i - st.length) % lo.length) 0
theorem seqW_stem {st lo : List Int} {i : Nat} (h : i < st.length) : seqW st lo i = st.getD i 0 := by rw [seqW, if_pos h]
theorem seqW_loop {st lo : List Int} {i : Nat} (h : st.length ≤ i) : seqW st lo i = lo.getD ((i - st.length) % lo.length) 0 := by rw [seqW, if_neg (by omega)]
end Go.Proofs.YtiebpncpdbnelaaDoor
namespace Go.Proofs.YtiebpncpdbnelaaDoor
open Go.RowKit
def atW (st lo : List Int) (i : Int) : Int := if i < 0 then 0 else seqW st lo i.toNat
structure WRd (w : World) (B : Nat) (A1 A2 : Option Addr) (n1 c1 n2 c2 : Nat) (st lo : List Int) : Prop where
 s1 : Sl w B 1 A1 n1 c1 (ucells st)
 s2 : Sl w B 1 A2 n2 c2 (ucells lo)
 l1 : n1 = st.length
 l2 : n2 = lo.length
theorem WRd.below {w w' : World} {B B' n1 c1 n2 c2 : Nat} {A1 A2 : Option Addr} {st lo : List Int} (h : WRd w B A1 A2 n1 c1 n2 c2 st lo) (hb : Below B' w w') (hB : B ≤ B') : WRd w' B A1 A2 n1 c1 n2 c2 st lo :=
 ⟨h.s1.below hb hB, h.s2.below hb hB, h.l1, h.l2⟩
theorem WRd.up {w : World} {B B' n1 c1 n2 c2 : Nat} {A1 A2 : Option Addr} {st lo : List Int} (h : WRd w B A1 A2 n1 c1 n2 c2 st lo) (hB : B ≤ B') : WRd w B' A1 A2 n1 c1 n2 c2 st lo := ⟨h.s1.up hB, h.s2.up hB, h.l1, h.l2⟩
theorem rd_u {w : World} {B : Nat} {A : Option Addr} {n c : Nat} {l : List Int} (h : Sl w B 1 A n c (ucells l)) {k : Nat} (hk : k < l.length) : ∃ b o, A = some ⟨b, o, none⟩ ∧ b < B ∧ w.cell? ⟨b, o + k, none⟩ = some (.int .u64 (l.getD k 0)) :=
 h.rd.at_ (ucells_at hk)
theorem wbox (w : World) (A1 A2 : Option Addr) (n1 c1 n2 c2 : Nat) : Below w.heap.size w (w.alloc (.cells #[.slice A1 n1 c1, .slice A2 n2 c2] 29)) ∧ (w.alloc (.cells #[.slice A1 n1 c1, .slice A2 n2 c2] 29)).cell? ⟨w.heap.size, 0, none⟩ = some (.slice A1 n1 c1) ∧
  (w.alloc (.cells #[.slice A1 n1 c1, .slice A2 n2 c2] 29)).cell? ⟨w.heap.size, 1, none⟩ = some (.slice A2 n2 c2) :=
 ⟨(Below.refl _ _).alloc (Nat.le_refl _) _, by rw [cell_of_row _ _ _ _ _ (0, 0) (heap_alloc_new w _)]; rfl, by rw [cell_of_row _ _ _ _ _ (0, 0) (heap_alloc_new w _)]; rfl⟩
set_option maxHeartbeats 400000 in
theorem pCheck_any (A1 A2 : Option Addr) (n1 c1 n2 c2 : Nat) (st lo : List Int) (w : World) (hn1 : n1 = st.length) (hn2 : n2 = lo.length) (hl : n1 + n2 ≤ 60000) :
  Calls Tryd.prog 54 #[.agg #[.slice A1 n1 c1, .slice A2 n2 c2]] w (Num w (if n2 = 0 then 8 else 0)) := by
 have hb := (wbox w A1 A2 n1 c1 n2 c2).1
 by_cases h0 : n2 = 0
 ·have d : ((n2 : Int) == 0) = true := by simp [h0]
  rw [if_pos h0]
  clear h0 hn1 hn2
  go_enter Tryd.func54, Tryd.ntmps54
  go_wp2
  go_ret
  exact ⟨rfl, hb⟩
 ·have d : ((n2 : Int) == 0) = false := by simpa using h0
  have d2 : decide ((65536 : Int) < (n1 : Int) + (n2 : Int)) = false := by simp; omega
  rw [if_neg h0]
  clear h0 hn1 hn2
  go_enter Tryd.func54, Tryd.ntmps54
  go_wp2
  go_ret
  exact ⟨rfl, hb⟩
theorem pLen_any (A1 A2 : Option Addr) (n1 c1 n2 c2 : Nat) (w : World) (hl : n1 + n2 ≤ 60000) :
  Calls Tryd.prog 80 #[.agg #[.slice A1 n1 c1, .slice A2 n2 c2]] w (Num w ((n1 + n2 : Nat) : Int)) := by
 have hb := (wbox w A1 A2 n1 c1 n2 c2).1
 go_enter Tryd.func80, Tryd.ntmps80
 go_wp2
 go_ret
 exact ⟨ret_int (by omega), hb⟩
set_option maxHeartbeats 1000000 in
theorem pAt_any (A1 A2 : Option Addr) (n1 c1 n2 c2 : Nat) (st lo : List Int) (i : Int) (w : World) (B : Nat) (h : WRd w B A1 A2 n1 c1 n2 c2 st lo) (hB : B ≤ w.heap.size) (_hl : n1 + n2 ≤ 60000) (hi : i ≤ 9223372036854775807) :
  Calls Tryd.prog 82 #[.agg #[.slice A1 n1 c1, .slice A2 n2 c2], .int .i64 i] w (NumU w (atW st lo i)) := by
 obtain ⟨hb, hx1, hx2⟩ := wbox w A1 A2 n1 c1 n2 c2
 have h1 := h.below hb hB
 have hn1 := h.l1
 have hn2 := h.l2
 clear hx1 hx2 h
 by_cases h0 : i < 0
 ·have d : decide (i < 0) = true := by simpa using h0
  have e : atW st lo i = 0 := by rw [atW, if_pos h0]
  rw [e]
  clear e h0 hn1 hn2 h1
  go_enter Tryd.func82, Tryd.ntmps82
  go_wp2
  go_ret
  exact ⟨rfl, hb⟩
 obtain ⟨k, rfl⟩ := Int.eq_ofNat_of_zero_le (show 0 ≤ i by omega)
 have e : atW st lo (k : Int) = seqW st lo k := by rw [atW, if_neg h0, Int.toNat_natCast]
 rw [e]
 clear e h0
 by_cases hk : k < n1
 ·have hks : k < st.length := by omega
  obtain ⟨b, o, rfl, hbB, hc⟩ := rd_u h1.s1 hks
  rw [seqW_stem hks]
  clear hn1 hn2 h1 hks
  generalize st.getD k 0 = x at *
  have d : (k : Int) < (n1 : Int) := by omega
  go_enter Tryd.func82, Tryd.ntmps82
  go_wp2
  go_ret
  exact ⟨rfl, hb⟩
 have d0 : decide (k < n1) = false := by simpa using hk
 by_cases h2 : n2 = 0
 ·have d : ((n2 : Int) == 0) = true := by simp [h2]
  have hlo : lo = [] := List.eq_nil_of_length_eq_zero (by omega)
  have e : seqW st lo k = 0 := by rw [seqW_loop (by omega), hlo]; rfl
  rw [e]
  clear e hlo h2 hn1 hn2 h1
  go_enter Tryd.func82, Tryd.ntmps82
  go_wp2
  go_ret
  exact ⟨rfl, hb⟩
 ·have d : ((n2 : Int) == 0) = false := by simpa using h2
  have hm := Nat.mod_lt (k - n1) (show 0 < n2 by omega)
  have hkl : (k - n1) % n2 < lo.length := by omega
  obtain ⟨b, o, rfl, hbB, hc⟩ := rd_u h1.s2 hkl
  have e : seqW st lo k = lo.getD ((k - n1) % n2) 0 := by rw [seqW_loop (by omega), hn1, hn2]
  rw [e]
  obtain ⟨j, hj⟩ : ∃ j, j = k - n1 := ⟨_, rfl⟩
  rw [← hj] at hm hc ⊢
  have e1 : IntKind.i64.wrap ((k : Int) - (n1 : Int)) = (j : Int) := by rw [IntWalk.i64_in _ (by omega)]; omega
  have e2 : ((j : Int)).tmod (n2 : Int) = ((j % n2 : Nat) : Int) := by rw [Int.tmod_eq_emod_of_nonneg (by omega)]; omega
  have hpos : (0 : Int) < (n2 : Int) := by omega
  generalize lo.getD (j % n2) 0 = x at *
  generalize j % n2 = r at *
  have i1 : (r : Int) < (n2 : Int) := by omega
  have hn0 : ¬ ((n2 : Int) = 0) := by omega
  have E1 := Lib.hid e1
  have E2 := Lib.hid e2
  clear e hn1 hn2 h1 hj e1 e2 hkl h2
  go_enter Tryd.func82, Tryd.ntmps82
  go_wp2
  have e1 := E1.out
  have e2 := E2.out
  go_quiet (fail)
  clear e1 e2
  go_wp2
  go_ret
  exact ⟨rfl, below_drewN hb _⟩
set_option maxHeartbeats 400000 in
theorem rCheck_any (A1 A2 : Option Addr) (n1 c1 n2 c2 : Nat) (st lo : List Int) (w : World) (hn1 : n1 = st.length) (hn2 : n2 = lo.length) (hl : n1 + n2 ≤ 60000) :
  Calls Tryd.prog 34 #[.agg #[.slice A1 n1 c1, .slice A2 n2 c2]] w (Num w (if n2 = 0 then 8 else 0)) := by
 have hb := (wbox w A1 A2 n1 c1 n2 c2).1
 by_cases h0 : n2 = 0
 ·have d : ((n2 : Int) == 0) = true := by simp [h0]
  rw [if_pos h0]
  clear h0 hn1 hn2
  go_enter Tryd.func34, Tryd.ntmps34
  go_wp2
  go_ret
  exact ⟨rfl, hb⟩
 ·have d : ((n2 : Int) == 0) = false := by simpa using h0
  have d2 : decide ((65536 : Int) < (n1 : Int) + (n2 : Int)) = false := by simp; omega
  rw [if_neg h0]
  clear h0 hn1 hn2
  go_enter Tryd.func34, Tryd.ntmps34
  go_wp2
  go_ret
  exact ⟨rfl, hb⟩
theorem rLen_any (A1 A2 : Option Addr) (n1 c1 n2 c2 : Nat) (w : World) (hl : n1 + n2 ≤ 60000) :
  Calls Tryd.prog 35 #[.agg #[.slice A1 n1 c1, .slice A2 n2 c2]] w (Num w ((n1 + n2 : Nat) : Int)) := by
 have hb := (wbox w A1 A2 n1 c1 n2 c2).1
 go_enter Tryd.func35, Tryd.ntmps35
 go_wp2
 go_ret
 exact ⟨ret_int (by omega), hb⟩
set_option maxHeartbeats 1000000 in
theorem rAt_any (A1 A2 : Option Addr) (n1 c1 n2 c2 : Nat) (st lo : List Int) (i : Int) (w : World) (B : Nat) (h : WRd w B A1 A2 n1 c1 n2 c2 st lo) (hB : B ≤ w.heap.size) (_hl : n1 + n2 ≤ 60000) (hi : i ≤ 9223372036854775807) :
  Calls Tryd.prog 47 #[.agg #[.slice A1 n1 c1, .slice A2 n2 c2], .int .i64 i] w (NumU w (atW st lo i)) := by
 obtain ⟨hb, hx1, hx2⟩ := wbox w A1 A2 n1 c1 n2 c2
 have h1 := h.below hb hB
 have hn1 := h.l1
 have hn2 := h.l2
 clear hx1 hx2 h
 by_cases h0 : i < 0
 ·have d : decide (i < 0) = true := by simpa using h0
  have e : atW st lo i = 0 := by rw [atW, if_pos h0]
  rw [e]
  clear e h0 hn1 hn2 h1
  go_enter Tryd.func47, Tryd.ntmps47
  go_wp2
  go_ret
  exact ⟨rfl, hb⟩
 obtain ⟨k, rfl⟩ := Int.eq_ofNat_of_zero_le (show 0 ≤ i by omega)
 have e : atW st lo (k : Int) = seqW st lo k := by rw [atW, if_neg h0, Int.toNat_natCast]
 rw [e]
 clear e h0
 by_cases hk : k < n1
 ·have hks : k < st.length := by omega
  obtain ⟨b, o, rfl, hbB, hc⟩ := rd_u h1.s1 hks
  rw [seqW_stem hks]
  clear hn1 hn2 h1 hks
  generalize st.getD k 0 = x at *
  have d : (k : Int) < (n1 : Int) := by omega
  go_enter Tryd.func47, Tryd.ntmps47
  go_wp2
  go_ret
  exact ⟨rfl, hb⟩
 have d0 : decide (k < n1) = false := by simpa using hk
 by_cases h2 : n2 = 0
 ·have d : ((n2 : Int) == 0) = true := by simp [h2]
  have hlo : lo = [] := List.eq_nil_of_length_eq_zero (by omega)
  have e : seqW st lo k = 0 := by rw [seqW_loop (by omega), hlo]; rfl
  rw [e]
  clear e hlo h2 hn1 hn2 h1
  go_enter Tryd.func47, Tryd.ntmps47
  go_wp2
  go_ret
  exact ⟨rfl, hb⟩
 ·have d : ((n2 : Int) == 0) = false := by simpa using h2
  have hm := Nat.mod_lt (k - n1) (show 0 < n2 by omega)
  have hkl : (k - n1) % n2 < lo.length := by omega
  obtain ⟨b, o, rfl, hbB, hc⟩ := rd_u h1.s2 hkl
  have e : seqW st lo k = lo.getD ((k - n1) % n2) 0 := by rw [seqW_loop (by omega), hn1, hn2]
  rw [e]
  obtain ⟨j, hj⟩ : ∃ j, j = k - n1 := ⟨_, rfl⟩
  rw [← hj] at hm hc ⊢
  have e1 : IntKind.i64.wrap ((k : Int) - (n1 : Int)) = (j : Int) := by rw [IntWalk.i64_in _ (by omega)]; omega
  have e2 : ((j : Int)).tmod (n2 : Int) = ((j % n2 : Nat) : Int) := by rw [Int.tmod_eq_emod_of_nonneg (by omega)]; omega
  have hpos : (0 : Int) < (n2 : Int) := by omega
  generalize lo.getD (j % n2) 0 = x at *
  generalize j % n2 = r at *
  have i1 : (r : Int) < (n2 : Int) := by omega
  have hn0 : ¬ ((n2 : Int) = 0) := by omega
  have E1 := Lib.hid e1
  have E2 := Lib.hid e2
  clear e hn1 hn2 h1 hj e1 e2 hkl h2
  go_enter Tryd.func47, Tryd.ntmps47
  go_wp2
  have e1 := E1.out
  have e2 := E2.out
  go_quiet (fail)
  clear e1 e2
  go_wp2
  go_ret
  exact ⟨rfl, below_drewN hb _⟩
end Go.Proofs.YtiebpncpdbnelaaDoor
namespace Go.Proofs.YtiebpncpdbnelaaDoor
open Go.RowKit
theorem bare_zero {x y : Nat} (hx : x < 2 ^ 64) (hy : y < 2 ^ 64) : decide (bare64 x y = 0) = decide (x &&& y = x) := by
 refine decide_eq_decide.2 ⟨fun h => ?_, fun h => ?_⟩
 ·have := bare64_or hx hy
  rw [h, Nat.or_zero] at this
  exact this
 ·refine Nat.eq_of_testBit_eq (fun i => ?_)
  rw [bare64_bit hx hy, Nat.zero_testBit]
  have h2 : (x &&& y).testBit i = x.testBit i := by rw [h]
  rw [Nat.testBit_and] at h2
  cases hxi : x.testBit i <;> cases hyi : y.testBit i <;> simp_all
set_option maxHeartbeats 4000000 in
set_option maxRecDepth 100000 in
theorem reads_any (a : Aut) (Ai : Option Addr) (ni ci : Nat) (An : Option Addr) (nn cn : Nat) (A1 A2 : Option Addr) (n1 c1 n2 c2 : Nat) (st lo : List Int) (W : List Nat) (w : World) (B ab wb q k : Nat) (h : AutRd w B a Ai ni ci An nn cn) (hw : WRd w B A1 A2 n1 c1 n2 c2 st lo) (hB : B ≤ w.heap.size)
  (hab : w.cell? ⟨ab, 2, none⟩ = some (.slice An nn cn)) (hwb0 : w.cell? ⟨wb, 0, none⟩ = some (.slice A1 n1 c1)) (hwb1 : w.cell? ⟨wb, 1, none⟩ = some (.slice A2 n2 c2)) (hq : q < nn) (hl : n1 + n2 ≤ 60000) (hat : atW st lo (k : Int) = ((W.getD k 0 : Nat) : Int)) (h64 : W.getD k 0 < 2 ^ 64) (hk : k ≤ 1000000) (hnd : ∀ x ∈ a.nodes, x.need < 2 ^ 64 ∧ x.ban < 2 ^ 64) :
  Calls Tryd.prog 81 #[.int .i64 (q : Int), .int .i64 (k : Int), .pointer (some ⟨wb, 0, none⟩), .pointer (some ⟨ab, 0, none⟩)] w (Tru w (rdsB (a.at q) (W.getD k 0))) := by
 have HAT := Lib.hid (pAt_any A1 A2 n1 c1 n2 c2 st lo (k : Int) w B hw hB hl (by omega))
 rw [hat] at HAT
 have hlab : ab < w.heap.size := World.block_lt_of_cell? w _ hab
 obtain ⟨b, o, x, At, ct, hAn, hbl, hx, c0, c1', c2', c3, hst⟩ := rd_aut h hq
 subst hAn
 have hxe : a.at q = x := by unfold Aut.at; rw [List.getD_eq_getElem?_getD, hx]; rfl
 rw [hxe]
 obtain ⟨hn1, hn2⟩ := hnd x (List.mem_of_getElem? hx)
 have hq0 : (0 : Int) ≤ (q : Int) := by omega
 have hq1 : (q : Int) < (nn : Int) := by omega
 obtain ⟨u, hu⟩ : ∃ u, W.getD k 0 = u := ⟨_, rfl⟩
 rw [hu] at HAT h64 ⊢
 have a1 := andNot_bit hn1 h64
 have a2 := and_u64N hn2 h64
 have hr : rdsB x u = (decide (bare64 x.need u = 0) && decide (x.ban &&& u = 0)) := by rw [bare_zero hn1 h64]; rfl
 generalize bare64 x.need u = p at *
 generalize x.ban &&& u = r at *
 have HC0 := Lib.hid c0
 have HC1 := Lib.hid c1'
 have HAB := Lib.hid hab
 have hbw : b < w.heap.size := by omega
 clear h hw hst hx hxe c0 c1' c2' c3 hnd hat hab hu
 by_cases e1 : p = 0
 ·have m1 : ((p : Int) == 0) = true := by simp [e1]
  rw [decide_eq_true e1, Bool.true_and] at hr
  have HR := Lib.hid hr
  clear hr e1
  by_cases e2 : r = 0
  ·have m2 : ((r : Int) == 0) = true := by simp [e2]
   have HE := Lib.hid e2
   clear e2
   go_enter Tryd.func81, Tryd.ntmps81
   go_wp2_with fail
   refine HAT.out.mono ?_
   rintro e w1 ⟨rfl, hb1⟩
   have HB1 := Lib.hid hb1
   have d0 := (hb1.cell (p := ⟨b, o + q * 4, none⟩) hbw).trans HC0.out
   have d1 := (hb1.cell (p := ⟨b, o + q * 4 + 1, none⟩) hbw).trans HC1.out
   have d2 := (hb1.cell (p := ⟨ab, 2, none⟩) hlab).trans HAB.out
   clear hb1 hwb0 hwb1
   go_wp2_with fail
   go_ret
   exact ⟨by rw [HR.out, decide_eq_true HE.out]; rfl, HB1.out⟩
  ·have m2 : ((r : Int) == 0) = false := beq_eq_false_iff_ne.2 (by omega)
   have HE := Lib.hid e2
   clear e2
   go_enter Tryd.func81, Tryd.ntmps81
   go_wp2_with fail
   refine HAT.out.mono ?_
   rintro e w1 ⟨rfl, hb1⟩
   have HB1 := Lib.hid hb1
   have d0 := (hb1.cell (p := ⟨b, o + q * 4, none⟩) hbw).trans HC0.out
   have d1 := (hb1.cell (p := ⟨b, o + q * 4 + 1, none⟩) hbw).trans HC1.out
   have d2 := (hb1.cell (p := ⟨ab, 2, none⟩) hlab).trans HAB.out
   clear hb1 hwb0 hwb1
   go_wp2_with fail
   go_ret
   exact ⟨by rw [HR.out, decide_eq_false HE.out]; rfl, HB1.out⟩
 ·have m1 : ((p : Int) == 0) = false := beq_eq_false_iff_ne.2 (by omega)
  rw [decide_eq_false e1, Bool.false_and] at hr
  have HR := Lib.hid hr
  clear hr e1
  go_enter Tryd.func81, Tryd.ntmps81
  go_wp2_with fail
  refine HAT.out.mono ?_
  rintro e w1 ⟨rfl, hb1⟩
  have HB1 := Lib.hid hb1
  have d0 := (hb1.cell (p := ⟨b, o + q * 4, none⟩) hbw).trans HC0.out
  have d1 := (hb1.cell (p := ⟨b, o + q * 4 + 1, none⟩) hbw).trans HC1.out
  have d2 := (hb1.cell (p := ⟨ab, 2, none⟩) hlab).trans HAB.out
  clear hb1 hwb0 hwb1
  go_wp2_with fail
  go_ret
  exact ⟨by rw [HR.out]; rfl, HB1.out⟩
end Go.Proofs.YtiebpncpdbnelaaDoor
