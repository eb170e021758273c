/- Texts that stand one behind the other, in one file. -/
import Derived.Test.YtiebpncpdbnelaaDoorSc6
set_option maxHeartbeats 4000000
set_option maxRecDepth 100000
namespace Go.Proofs.YtiebpncpdbnelaaDoor
open Go.RowKit
theorem index_loops (b : Nat) (p : Nd → Bool) (l : List Nd) (A : Option Addr) (n c : Nat) (w : World) (B : Nat) (hs : Sl w B 2 A n c (ncells l)) (hB : B ≤ w.1.size) (hn : n = l.length) (hl : n ≤ 100000000000)
  (HC : Hid (∀ (x : Nd) (w' : World), x ∈ l → Below w.1.size w w' → Calls Tryd.prog 127 #[.agg #[.int .i64 x.op, .int .i64 x.n], .pointer (some ⟨b, 0, none⟩)] w' (Tru w' (p x)))) :
  Calls Tryd.prog 133 #[.slice A n c, .func (.func 127) #[] #[.pointer (some ⟨b, 0, none⟩)]] w (Fnd w (l.any p)) := by
 subst hn
 go_enter Tryd.func133, Tryd.ntmps133
 go_wp2
 go_loopw [8] (fun i wr => ∃ k : Nat, k ≤ l.length ∧ i = .int .i64 k ∧ Below w.1.size w wr ∧ Hid ((l.take k).any p = false)) (fun i _ => l.length - (intOf i).toNat)
 case atStart => exact ⟨0, by omega, rfl, bR, rfl⟩
 case round =>
  obtain ⟨k, hk, rfl, hbr, HA⟩ := hrel
  have hsw := hbr.size
  by_cases hlt : k < l.length
  ·obtain ⟨bb, o, rfl, _, hc0, hc1⟩ := rd_nd (hs.rd.below hbr hB) hlt
   have hC := HC.out l[k] wr (mM hlt) hbr
   have hmem := mM hlt
   have hsn : (l.take (k + 1)).any p = (p l[k]) := by rw [take_snoc l k hlt, List.any_append, HA.out]; simp
   obtain ⟨x, hx⟩ := xQ (l[k])
   rw [hx] at hc0 hc1
   rw [hx] at hC hsn hmem
   have HCC := dh hC
   have HS := dh hsn
   have HM := dh hmem
   clear hx hC hsn hmem
   cases hb : p x
   ·have HB := dh hb
    clear hb
    go_wp2_with fail
    refine Calls.mono HCC.out ?_
    rw [HB.out]
    rintro e w2 ⟨rfl, hb2⟩
    go_wp2
    go_roundw
    case rel => exact ⟨k + 1, by omega, by go_num, hbr.trans (hb2.mono hsw), by show _ = _; rw [HS.out]; exact HB.out⟩
    case measure => simp [intOf]; omega
   ·have HB := dh hb
    clear hb
    go_wp2_with fail
    refine Calls.mono HCC.out ?_
    rw [HB.out]
    rintro e w2 ⟨rfl, hb2⟩
    go_wp2
    go_ret
    exact ⟨_, rfl, by omega, by omega, hbr.trans (hb2.mono hsw), by rw [List.any_eq_true.2 ⟨x, HM.out, HB.out⟩]; simp⟩
  ·have hkl : k = l.length := by omega
   subst hkl
   rw [tL lR] at HA
   go_wp2
   go_ret
   exact ⟨_, rfl, by omega, by omega, hbr, by rw [HA.out]; rfl⟩
theorem contains_loops (b : Nat) (p : Nd → Bool) (l : List Nd) (A : Option Addr) (n c : Nat) (w : World) (B : Nat) (hs : Sl w B 2 A n c (ncells l)) (hB : B ≤ w.1.size) (hn : n = l.length) (hl : n ≤ 100000000000)
  (HC : Hid (∀ (x : Nd) (w' : World), x ∈ l → Below w.1.size w w' → Calls Tryd.prog 127 #[.agg #[.int .i64 x.op, .int .i64 x.n], .pointer (some ⟨b, 0, none⟩)] w' (Tru w' (p x)))) :
  Calls Tryd.prog 126 #[.slice A n c, .func (.func 127) #[] #[.pointer (some ⟨b, 0, none⟩)]] w (Tru w (l.any p)) := by
 go_enter Tryd.func126, Tryd.ntmps126
 have hI := dh (index_loops b p l A n c w B hs hB hn hl HC)
 clear hn hs hl
 go_wp2_with fail
 refine Calls.mono hI.out ?_
 rintro e w1 ⟨k, rfl, _, _, hb, hk⟩
 go_wp2
 go_ret
 exact ⟨rfl, hb⟩
theorem loops1_any (e : Nd) (b : Nat) (k : Int) (w : World) (h0 : w.cell? ⟨b, 0, none⟩ = some (.int .i64 k)) :
  Calls Tryd.prog 127 #[.agg #[.int .i64 e.op, .int .i64 e.n], .pointer (some ⟨b, 0, none⟩)] w (Tru w (e.op == k)) := by
 have hb := (Below.refl w.1.size w).alloc lR (.cells #[.int .i64 e.op, .int .i64 e.n] 65)
 have hb0 := World.block_lt_of_cell? w _ h0
 go_enter Tryd.func127, Tryd.ntmps127
 go_wp2_with fail
 go_ret
 exact ⟨rfl, hb⟩
theorem loops_any (E : List (List Nd)) (vi vl : Value) (ae : Option Addr) (N ce B : Nat) (w : World) (n : Nat) (hEd : Sl2 w B 2 ae N ce (E.map ncells)) (hB : B ≤ w.1.size) (hn : n < N) (hr : ∀ r ∈ E, r.length ≤ 1000000) (_hN : N ≤ 1000000) :
  Calls Tryd.prog 118 #[.agg #[vi, .slice ae N ce, vl], .int .i64 (n : Int)] w (Tru w (loopsB E n)) := by
 have hNE : N = E.length := by have := hEd.len; simpa using this
 have hnE : n < E.length := by omega
 have hcap := hEd.cap
 have hmax := hEd.max
 unfold maxLen at hmax
 obtain ⟨hb0, x0, y0, z0⟩ := two_new w (.cells #[vi, .slice ae N ce, vl] 67) (.cells #[.int .i64 (n : Int)] 3)
 obtain ⟨W0, hW0⟩ := xQ ((w.alloc (.cells #[vi, .slice ae N ce, vl] 67)).alloc (.cells #[.int .i64 (n : Int)] 3))
 rw [hW0] at hb0 x0 y0 z0
 obtain ⟨eb, eo, A', n', c', hae, hbb, hc00, hrow⟩ := (hEd.below hb0 hB).at_ (ed_take hnE)
 subst hae
 have hlen : n' = E[n].length := by have := hrow.len; rw [ncells_len] at this; omega
 have hgE : loopsB E n = E[n].any (fun e => e.op == (n : Int)) := by unfold loopsB; rw [gD, gE hnE]; rfl
 have hrl := hr E[n] (mM hnE)
 rw [hgE]
 generalize E[n] = er at *
 subst hlen
 have c1 : W0.cell? ⟨w.1.size, 1, none⟩ = some (.slice (some ⟨eb, eo, none⟩) N ce) := cR x0
 have cn : W0.cell? ⟨w.1.size + 1, 0, none⟩ = some (.int .i64 (n : Int)) := cR y0
 have hn0 : (0 : Int) ≤ (n : Int) := by omega
 have hn1 : (n : Int) < (N : Int) := by omega
 have HCT := dh (contains_loops (w.1.size + 1) (fun e => e.op == (n : Int)) er A' er.length c' W0 W0.1.size (hrow.up (by omega)) lR rfl (by omega) (dh (fun x w' _ hb => loops1_any x (w.1.size + 1) (n : Int) w' (bC hb (by show w.1.size + 1 < W0.1.size; omega) cn))))
 have hrc := hrow.cap
 have HW0 := dh hW0
 have HB0 := dh hb0
 have HZ := dh z0
 clear hrow hb0 x0 y0 z0 hW0 hEd hgE hNE
 go_enter Tryd.func118, Tryd.ntmps118
 go_upto_region 1 with fail
 rw [HW0.out]
 go_wp2_with fail
 refine HCT.out.mono ?_
 rintro e w1 ⟨rfl, hb1⟩
 have HB1 := dh (HB0.out.trans (hb1.mono (by have := HZ.out; omega)))
 clear hb1
 go_wp2_with fail
 go_ret
 exact ⟨rfl, HB1.out⟩
end Go.Proofs.YtiebpncpdbnelaaDoor
namespace Go.Proofs.YtiebpncpdbnelaaDoor
open Go.RowKit
def oneC (L : List Nat) (k : Nat) : Int := if k = 0 then -1 else ((L.getD 0 0 : Nat) : Int)
theorem cyc_more {E : List (List Nd)} {L : List Nat} {k : Nat} (hk : k < L.length) (h0 : 0 < k) (hne : L.getD k 0 ≠ L.getD 0 0) : cycB E L = true := by
 cases L with
 | nil => simp at hk
 | cons x l =>
  obtain ⟨j, rfl⟩ : ∃ j, k = j + 1 := ⟨k - 1, by omega⟩
  unfold cycB
  rw [Bool.or_eq_true]
  left
  have hj : j < l.length := by simpa using hk
  refine List.any_eq_true.2 ⟨l[j], mM hj, ?_⟩
  simp only [List.getD_cons_succ, List.getD_cons_zero] at hne
  rw [gD, gE hj] at hne
  simpa using hne
theorem cyc_one {E : List (List Nd)} {L : List Nat} (h0 : 0 < L.length) (h : ∀ j, 0 < j → j < L.length → L.getD j 0 = L.getD 0 0) : cycB E L = loopsB E (L.getD 0 0) := by
 cases L with
 | nil => simp at h0
 | cons x l =>
  have : l.any (fun y => y != x) = false := by
   rw [List.any_eq_false]
   intro y hy
   obtain ⟨j, hj⟩ := List.getElem?_of_mem hy
   have hjl := (gB.1 hj).1
   have := h (j + 1) (by omega) (by simpa using hjl)
   simp only [List.getD_cons_succ, List.getD_cons_zero] at this
   rw [gD, hj] at this
   simpa using this
  show (l.any (fun y => y != x) || loopsB E x) = _
  rw [this, Bool.false_or]; rfl
theorem cyclic_any (E : List (List Nd)) (vi vl : Value) (ae : Option Addr) (N ce B : Nat) (w : World) (L : List Nat) (A : Option Addr) (n c : Nat) (hEd : Sl2 w B 2 ae N ce (E.map ncells)) (hB : B ≤ w.1.size) (hL : Sl w B 1 A n c (icells (natI L))) (hlt : ∀ x ∈ L, x < N)
  (hr : ∀ r ∈ E, r.length ≤ 1000000) (hN : N ≤ 1000000) :
  Calls Tryd.prog 98 #[.agg #[vi, .slice ae N ce, vl], .slice A n c] w (Tru w (cycB E L)) := by
 have hnl : n = L.length := by have := hL.len; rw [icells_len, natI_len] at this; omega
 have hcapE := hEd.cap
 have hmaxE := hEd.max
 have hcap := hL.cap
 have hmax := hL.max
 unfold maxLen at hmax hmaxE
 obtain ⟨w0, hw0⟩ := xQ (w.alloc (.cells #[vi, .slice ae N ce, vl] 67))
 have hb0 : Below w.1.size w w0 := by rw [← hw0]; exact bR.alloc lR _
 have hx0 : w0.1[w.1.size]? = some (.cells #[vi, .slice ae N ce, vl] 67) := by rw [← hw0]; exact heap_alloc_new w _
 have hc0 : w0.cell? ⟨w.1.size, 0, none⟩ = some vi := cR hx0
 have hc1 : w0.cell? ⟨w.1.size, 1, none⟩ = some (.slice ae N ce) := cR hx0
 have hc2 : w0.cell? ⟨w.1.size, 2, none⟩ = some vl := cR hx0
 have hz0 : w0.1.size = w.1.size + 1 := by rw [← hw0]; simp
 have hLt : ∀ k, k < n → L.getD k 0 < N := fun k hk => hlt _ (by rw [gD, gE (by omega : k < L.length)]; exact mM (by omega))
 have HL := dh (hL.below hb0 hB)
 have HLP := dh (fun (x : Nat) (hx : x < N) => loops_any E vi vl ae N ce B w0 x (hEd.below hb0 hB) (by omega) hx hr hN)
 have HW0 := dh hw0
 have HB0 := dh hb0
 have HNL := dh hnl
 have HLT := dh hLt
 clear hw0 hEd hL hlt hr hb0 hnl hLt hx0
 go_enter Tryd.func98, Tryd.ntmps98
 go_upto_region 1 with fail
 rw [HW0.out]
 go_wp2_with fail
 go_loopw [10, 5] (fun i o wr => ∃ k : Nat, k ≤ n ∧ i = .int .i64 k ∧ o = .int .i64 (oneC L k) ∧ Hid (∀ j, 0 < j → j < k → L.getD j 0 = L.getD 0 0) ∧ wr = w0) (fun i _ _ => n - (intOf i).toNat)
 case atStart => exact ⟨0, by omega, rfl, rfl, dh (fun j h1 h2 => by omega), rfl⟩
 case round =>
  obtain ⟨k, hk, rfl, rfl, HA, rfl⟩ := hrel
  by_cases hlt : k < n
  ·have hk0 : (0 : Int) ≤ (k : Int) := by omega
   have hk1 : (k : Int) < (n : Int) := by omega
   have wk : IntKind.i64.wrap ((k : Int) + 1) = (k : Int) + 1 := by rw [wI]; omega
   obtain ⟨b1, o1, hA1, hb1, hcl⟩ := HL.out.rd.at_ (nat_at (by rw [← HNL.out]; exact hlt))
   subst hA1
   have hxN := HLT.out k hlt
   obtain ⟨x, hx⟩ := xQ (L.getD k 0)
   rw [hx] at hcl hxN
   have hge : ((N : Int) ≤ (x : Int)) = False := by simp; omega
   have hge2 : decide ((N : Int) ≤ (x : Int)) = false := by simp; omega
   have hge3 : (N ≤ x) = False := by simp; omega
   have HX := dh hx
   clear hx
   by_cases hk00 : k = 0
   ·subst hk00
    have e0 : oneC L 0 = -1 := rfl
    rw [e0]
    have hne : ((x : Int) == -1) = false := by first | (simp; done) | (simp; omega)
    rw [Nat.add_zero] at hcl
    have e1 : Hid (oneC L (0 + 1) = (x : Int)) := dh (by rw [oneC, if_neg (by omega), HX.out])
    clear e0
    go_wp2_with fail
    exact ⟨⟨1, by omega, rfl, by rw [show oneC L 1 = (x : Int) from e1.out], dh (fun j h1 h2 => by omega), trivial⟩, by simp [intOf]; omega⟩
   ·obtain ⟨y, hy⟩ := xQ (L.getD 0 0)
    have e0 : oneC L k = (y : Int) := by rw [oneC, if_neg hk00, hy]
    have e1 : Hid (oneC L (k + 1) = (y : Int)) := dh (by rw [oneC, if_neg (by omega), hy])
    rw [e0]
    have HY := dh hy
    clear e0 hy
    by_cases hxy : x = y
    ·subst hxy
     go_wp2_with fail
     refine ⟨⟨k + 1, by omega, congrArg (Value.int .i64) (by omega), by rw [e1.out], dh (fun j h1 h2 => ?_), trivial⟩, by simp [intOf]; omega⟩
     by_cases e : j = k
     ·subst e; rw [HX.out, HY.out]
     ·exact HA.out j h1 (by omega)
    ·have hne : ((x : Int) == (y : Int)) = false := by simp; omega
     have hy0 : (0 : Int) ≤ (y : Int) := by omega
     have hcy : Hid (cycB E L = true) := dh (cyc_more (by rw [← HNL.out]; exact hlt) (by omega) (by rw [HX.out, HY.out]; exact hxy))
     go_wp2_with fail
     go_ret
     exact ⟨ret_bool hcy.out.symm, HB0.out⟩
  ·have hkn : k = n := by omega
   subst hkn
   by_cases hk00 : k = 0
   ·subst hk00
    have hc : cycB E L = false := by
     have : L = [] := List.eq_nil_of_length_eq_zero HNL.out.symm
     rw [this]; rfl
    have HCY := dh hc
    clear hc
    rw [show oneC L 0 = -1 from rfl]
    go_wp2_with fail
    go_ret
    exact ⟨ret_bool HCY.out.symm, HB0.out⟩
   ·obtain ⟨y, hy⟩ := xQ (L.getD 0 0)
    have hyN : y < N := by rw [← hy]; exact HLT.out 0 (by omega)
    have e0 : oneC L k = (y : Int) := by rw [oneC, if_neg hk00, hy]
    have hc : cycB E L = loopsB E y := by rw [← hy]; exact cyc_one (by rw [← HNL.out]; omega) (fun j h1 h2 => HA.out j h1 (by rw [HNL.out]; exact h2))
    have HCY := dh hc
    rw [e0]
    have hy0 : (0 : Int) ≤ (y : Int) := by omega
    have HC := dh (HLP.out y hyN)
    clear e0 hc hy hyN
    go_wp2_with fail
    refine HC.out.mono ?_
    rintro e w1 ⟨rfl, hb1⟩
    have HB1 := dh (HB0.out.trans (hb1.mono (by omega)))
    clear hb1
    go_wp2_with fail
    go_ret
    exact ⟨ret_bool HCY.out.symm, HB1.out⟩
end Go.Proofs.YtiebpncpdbnelaaDoor
