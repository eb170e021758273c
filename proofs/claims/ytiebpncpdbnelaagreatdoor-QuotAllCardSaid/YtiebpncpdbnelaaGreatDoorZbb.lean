/- Texts that stand one behind the other, in one file. -/
import Derived.Test.YtiebpncpdbnelaaGreatDoorSc6
import Derived.RangeFuncNested
set_option maxHeartbeats 4000000
set_option maxRecDepth 100000
namespace Go.Proofs.YtiebpncpdbnelaaGreatDoor
open Go.RowKit
theorem index_loops (b : Nat) (p : Nd → Bool) (l : List Nd) (A : Option Addr) (n c : Nat) (w : World) (B : Nat) (hs : Sl w B 2 A n c (ncells l)) (hB : B ≤ w.1.size) (hn : n = l.length) (hl : n ≤ 100000000000)
  (HC : Hid (∀ (x : Nd) (w' : World), x ∈ l → Below w.1.size w w' → Calls Tryz.prog 95 #[.agg #[.int .i64 x.op, .int .i64 x.n], .pointer (some ⟨b, 0, none⟩)] w' (Tru w' (p x)))) :
  Calls Tryz.prog 101 #[.slice A n c, .func (.func 95) #[] #[.pointer (some ⟨b, 0, none⟩)]] w (Fnd w (l.any p)) := by
 subst hn
 go_enter Tryz.func101, Tryz.ntmps101
 go_wp2
 go_loopw [8] (fun i wr => ∃ k : Nat, k ≤ l.length ∧ i = .int .i64 k ∧ Below w.1.size w wr ∧ Hid ((l.take k).any p = false)) (fun i _ => l.length - (intOf i).toNat)
 case atStart => exact ⟨0, by omega, rfl, bR, rfl⟩
 case round =>
  obtain ⟨k, hk, rfl, hbr, HA⟩ := hrel
  have hsw := hbr.size
  by_cases hlt : k < l.length
  ·obtain ⟨bb, o, rfl, _, hc0, hc1⟩ := rd_nd (hs.rd.below hbr hB) hlt
   have hC := HC.out l[k] wr (mM hlt) hbr
   have hmem := mM hlt
   have hsn : (l.take (k + 1)).any p = (p l[k]) := by rw [take_snoc l k hlt, List.any_append, HA.out]; simp
   obtain ⟨x, hx⟩ := xQ (l[k])
   rw [hx] at hc0 hc1
   rw [hx] at hC hsn hmem
   have HCC := dh hC
   have HS := dh hsn
   have HM := dh hmem
   clear hx hC hsn hmem
   cases hb : p x
   ·have HB := dh hb
    clear hb
    go_wp2_with fail
    refine Calls.mono HCC.out ?_
    rw [HB.out]
    rintro e w2 ⟨rfl, hb2⟩
    go_wp2
    go_roundw
    case rel => exact ⟨k + 1, by omega, by go_num, hbr.trans (hb2.mono hsw), by show _ = _; rw [HS.out]; exact HB.out⟩
    case measure => simp [intOf]; omega
   ·have HB := dh hb
    clear hb
    go_wp2_with fail
    refine Calls.mono HCC.out ?_
    rw [HB.out]
    rintro e w2 ⟨rfl, hb2⟩
    go_wp2
    go_ret
    exact ⟨_, rfl, by omega, by omega, hbr.trans (hb2.mono hsw), by rw [List.any_eq_true.2 ⟨x, HM.out, HB.out⟩]; simp⟩
  ·have hkl : k = l.length := by omega
   subst hkl
   rw [tL lR] at HA
   go_wp2
   go_ret
   exact ⟨_, rfl, by omega, by omega, hbr, by rw [HA.out]; rfl⟩
theorem contains_loops (b : Nat) (p : Nd → Bool) (l : List Nd) (A : Option Addr) (n c : Nat) (w : World) (B : Nat) (hs : Sl w B 2 A n c (ncells l)) (hB : B ≤ w.1.size) (hn : n = l.length) (hl : n ≤ 100000000000)
  (HC : Hid (∀ (x : Nd) (w' : World), x ∈ l → Below w.1.size w w' → Calls Tryz.prog 95 #[.agg #[.int .i64 x.op, .int .i64 x.n], .pointer (some ⟨b, 0, none⟩)] w' (Tru w' (p x)))) :
  Calls Tryz.prog 94 #[.slice A n c, .func (.func 95) #[] #[.pointer (some ⟨b, 0, none⟩)]] w (Tru w (l.any p)) := by
 go_enter Tryz.func94, Tryz.ntmps94
 have hI := dh (index_loops b p l A n c w B hs hB hn hl HC)
 clear hn hs hl
 go_wp2_with fail
 refine Calls.mono hI.out ?_
 rintro e w1 ⟨k, rfl, _, _, hb, hk⟩
 go_wp2
 go_ret
 exact ⟨rfl, hb⟩
theorem loops1_any (e : Nd) (b : Nat) (k : Int) (w : World) (h0 : w.cell? ⟨b, 0, none⟩ = some (.int .i64 k)) :
  Calls Tryz.prog 95 #[.agg #[.int .i64 e.op, .int .i64 e.n], .pointer (some ⟨b, 0, none⟩)] w (Tru w (e.op == k)) := by
 have hb := (Below.refl w.1.size w).alloc lR (.cells #[.int .i64 e.op, .int .i64 e.n] 83)
 have hb0 := World.block_lt_of_cell? w _ h0
 go_enter Tryz.func95, Tryz.ntmps95
 go_wp2_with fail
 go_ret
 exact ⟨rfl, hb⟩
theorem loops_any (E : List (List Nd)) (vi vl : Value) (ae : Option Addr) (N ce B : Nat) (w : World) (n : Nat) (hEd : Sl2 w B 2 ae N ce (E.map ncells)) (hB : B ≤ w.1.size) (hn : n < N) (hr : ∀ r ∈ E, r.length ≤ 1000000) (_hN : N ≤ 1000000) :
  Calls Tryz.prog 85 #[.agg #[vi, .slice ae N ce, vl], .int .i64 (n : Int)] w (Tru w (loopsB E n)) := by
 have hNE : N = E.length := by have := hEd.len; simpa using this
 have hnE : n < E.length := by omega
 have hcap := hEd.cap
 have hmax := hEd.max
 unfold maxLen at hmax
 obtain ⟨hb0, x0, y0, z0⟩ := two_new w (.cells #[vi, .slice ae N ce, vl] 55) (.cells #[.int .i64 (n : Int)] 3)
 obtain ⟨W0, hW0⟩ := xQ ((w.alloc (.cells #[vi, .slice ae N ce, vl] 55)).alloc (.cells #[.int .i64 (n : Int)] 3))
 rw [hW0] at hb0 x0 y0 z0
 obtain ⟨eb, eo, A', n', c', hae, hbb, hc00, hrow⟩ := (hEd.below hb0 hB).at_ (ed_take hnE)
 subst hae
 have hlen : n' = E[n].length := by have := hrow.len; rw [ncells_len] at this; omega
 have hgE : loopsB E n = E[n].any (fun e => e.op == (n : Int)) := by unfold loopsB; rw [gD, gE hnE]; rfl
 have hrl := hr E[n] (mM hnE)
 rw [hgE]
 generalize E[n] = er at *
 subst hlen
 have c1 : W0.cell? ⟨w.1.size, 1, none⟩ = some (.slice (some ⟨eb, eo, none⟩) N ce) := cR x0
 have cn : W0.cell? ⟨w.1.size + 1, 0, none⟩ = some (.int .i64 (n : Int)) := cR y0
 have hn0 : (0 : Int) ≤ (n : Int) := by omega
 have hn1 : (n : Int) < (N : Int) := by omega
 have HCT := dh (contains_loops (w.1.size + 1) (fun e => e.op == (n : Int)) er A' er.length c' W0 W0.1.size (hrow.up (by omega)) lR rfl (by omega) (dh (fun x w' _ hb => loops1_any x (w.1.size + 1) (n : Int) w' (bC hb (by show w.1.size + 1 < W0.1.size; omega) cn))))
 have hrc := hrow.cap
 have HW0 := dh hW0
 have HB0 := dh hb0
 have HZ := dh z0
 clear hrow hb0 x0 y0 z0 hW0 hEd hgE hNE
 go_enter Tryz.func85, Tryz.ntmps85
 go_upto_region 1 with fail
 rw [HW0.out]
 go_wp2_with fail
 refine HCT.out.mono ?_
 rintro e w1 ⟨rfl, hb1⟩
 have HB1 := dh (HB0.out.trans (hb1.mono (by have := HZ.out; omega)))
 clear hb1
 go_wp2_with fail
 go_ret
 exact ⟨rfl, HB1.out⟩
end Go.Proofs.YtiebpncpdbnelaaGreatDoor
namespace Go.Proofs.YtiebpncpdbnelaaGreatDoor
open Go.RowKit
def oneC (L : List Nat) (k : Nat) : Int := if k = 0 then -1 else ((L.getD 0 0 : Nat) : Int)
theorem cyc_more {E : List (List Nd)} {L : List Nat} {k : Nat} (hk : k < L.length) (h0 : 0 < k) (hne : L.getD k 0 ≠ L.getD 0 0) : cycB E L = true := by
 cases L with
 | nil => simp at hk
 | cons x l =>
  obtain ⟨j, rfl⟩ : ∃ j, k = j + 1 := ⟨k - 1, by omega⟩
  unfold cycB
  rw [Bool.or_eq_true]
  left
  have hj : j < l.length := by simpa using hk
  refine List.any_eq_true.2 ⟨l[j], mM hj, ?_⟩
  simp only [List.getD_cons_succ, List.getD_cons_zero] at hne
  rw [gD, gE hj] at hne
  simpa using hne
theorem cyc_one {E : List (List Nd)} {L : List Nat} (h0 : 0 < L.length) (h : ∀ j, 0 < j → j < L.length → L.getD j 0 = L.getD 0 0) : cycB E L = loopsB E (L.getD 0 0) := by
 cases L with
 | nil => simp at h0
 | cons x l =>
  have : l.any (fun y => y != x) = false := by
   rw [List.any_eq_false]
   intro y hy
   obtain ⟨j, hj⟩ := List.getElem?_of_mem hy
   have hjl := (gB.1 hj).1
   have := h (j + 1) (by omega) (by simpa using hjl)
   simp only [List.getD_cons_succ, List.getD_cons_zero] at this
   rw [gD, hj] at this
   simpa using this
  show (l.any (fun y => y != x) || loopsB E x) = _
  rw [this, Bool.false_or]; rfl
theorem cyclic_any (E : List (List Nd)) (vi vl : Value) (ae : Option Addr) (N ce B : Nat) (w : World) (L : List Nat) (A : Option Addr) (n c : Nat) (hEd : Sl2 w B 2 ae N ce (E.map ncells)) (hB : B ≤ w.1.size) (hL : Sl w B 1 A n c (icells (natI L))) (hlt : ∀ x ∈ L, x < N)
  (hr : ∀ r ∈ E, r.length ≤ 1000000) (hN : N ≤ 1000000) :
  Calls Tryz.prog 71 #[.agg #[vi, .slice ae N ce, vl], .slice A n c] w (Tru w (cycB E L)) := by
 have hnl : n = L.length := by have := hL.len; rw [icells_len, natI_len] at this; omega
 have hcapE := hEd.cap
 have hmaxE := hEd.max
 have hcap := hL.cap
 have hmax := hL.max
 unfold maxLen at hmax hmaxE
 obtain ⟨w0, hw0⟩ := xQ (w.alloc (.cells #[vi, .slice ae N ce, vl] 55))
 have hb0 : Below w.1.size w w0 := by rw [← hw0]; exact bR.alloc lR _
 have hx0 : w0.1[w.1.size]? = some (.cells #[vi, .slice ae N ce, vl] 55) := by rw [← hw0]; exact heap_alloc_new w _
 have hc0 : w0.cell? ⟨w.1.size, 0, none⟩ = some vi := cR hx0
 have hc1 : w0.cell? ⟨w.1.size, 1, none⟩ = some (.slice ae N ce) := cR hx0
 have hc2 : w0.cell? ⟨w.1.size, 2, none⟩ = some vl := cR hx0
 have hz0 : w0.1.size = w.1.size + 1 := by rw [← hw0]; simp
 have hLt : ∀ k, k < n → L.getD k 0 < N := fun k hk => hlt _ (by rw [gD, gE (by omega : k < L.length)]; exact mM (by omega))
 have HL := dh (hL.below hb0 hB)
 have HLP := dh (fun (x : Nat) (hx : x < N) => loops_any E vi vl ae N ce B w0 x (hEd.below hb0 hB) (by omega) hx hr hN)
 have HW0 := dh hw0
 have HB0 := dh hb0
 have HNL := dh hnl
 have HLT := dh hLt
 clear hw0 hEd hL hlt hr hb0 hnl hLt hx0
 go_enter Tryz.func71, Tryz.ntmps71
 go_upto_region 1 with fail
 rw [HW0.out]
 go_wp2_with fail
 go_loopw [10, 5] (fun i o wr => ∃ k : Nat, k ≤ n ∧ i = .int .i64 k ∧ o = .int .i64 (oneC L k) ∧ Hid (∀ j, 0 < j → j < k → L.getD j 0 = L.getD 0 0) ∧ wr = w0) (fun i _ _ => n - (intOf i).toNat)
 case atStart => exact ⟨0, by omega, rfl, rfl, dh (fun j h1 h2 => by omega), rfl⟩
 case round =>
  obtain ⟨k, hk, rfl, rfl, HA, rfl⟩ := hrel
  by_cases hlt : k < n
  ·have hk0 : (0 : Int) ≤ (k : Int) := by omega
   have hk1 : (k : Int) < (n : Int) := by omega
   have wk : IntKind.i64.wrap ((k : Int) + 1) = (k : Int) + 1 := by rw [wI]; omega
   obtain ⟨b1, o1, hA1, hb1, hcl⟩ := HL.out.rd.at_ (nat_at (by rw [← HNL.out]; exact hlt))
   subst hA1
   have hxN := HLT.out k hlt
   obtain ⟨x, hx⟩ := xQ (L.getD k 0)
   rw [hx] at hcl hxN
   have hge : ((N : Int) ≤ (x : Int)) = False := by simp; omega
   have hge2 : decide ((N : Int) ≤ (x : Int)) = false := by simp; omega
   have hge3 : (N ≤ x) = False := by simp; omega
   have HX := dh hx
   clear hx
   by_cases hk00 : k = 0
   ·subst hk00
    have e0 : oneC L 0 = -1 := rfl
    rw [e0]
    have hne : ((x : Int) == -1) = false := by first | (simp; done) | (simp; omega)
    rw [Nat.add_zero] at hcl
    have e1 : Hid (oneC L (0 + 1) = (x : Int)) := dh (by rw [oneC, if_neg (by omega), HX.out])
    clear e0
    go_wp2_with fail
    exact ⟨⟨1, by omega, rfl, by rw [show oneC L 1 = (x : Int) from e1.out], dh (fun j h1 h2 => by omega), trivial⟩, by simp [intOf]; omega⟩
   ·obtain ⟨y, hy⟩ := xQ (L.getD 0 0)
    have e0 : oneC L k = (y : Int) := by rw [oneC, if_neg hk00, hy]
    have e1 : Hid (oneC L (k + 1) = (y : Int)) := dh (by rw [oneC, if_neg (by omega), hy])
    rw [e0]
    have HY := dh hy
    clear e0 hy
    by_cases hxy : x = y
    ·subst hxy
     go_wp2_with fail
     refine ⟨⟨k + 1, by omega, congrArg (Value.int .i64) (by omega), by rw [e1.out], dh (fun j h1 h2 => ?_), trivial⟩, by simp [intOf]; omega⟩
     by_cases e : j = k
     ·subst e; rw [HX.out, HY.out]
     ·exact HA.out j h1 (by omega)
    ·have hne : ((x : Int) == (y : Int)) = false := by simp; omega
     have hy0 : (0 : Int) ≤ (y : Int) := by omega
     have hcy : Hid (cycB E L = true) := dh (cyc_more (by rw [← HNL.out]; exact hlt) (by omega) (by rw [HX.out, HY.out]; exact hxy))
     go_wp2_with fail
     go_ret
     exact ⟨ret_bool hcy.out.symm, HB0.out⟩
  ·have hkn : k = n := by omega
   subst hkn
   by_cases hk00 : k = 0
   ·subst hk00
    have hc : cycB E L = false := by
     have : L = [] := List.eq_nil_of_length_eq_zero HNL.out.symm
     rw [this]; rfl
    have HCY := dh hc
    clear hc
    rw [show oneC L 0 = -1 from rfl]
    go_wp2_with fail
    go_ret
    exact ⟨ret_bool HCY.out.symm, HB0.out⟩
   ·obtain ⟨y, hy⟩ := xQ (L.getD 0 0)
    have hyN : y < N := by rw [← hy]; exact HLT.out 0 (by omega)
    have e0 : oneC L k = (y : Int) := by rw [oneC, if_neg hk00, hy]
    have hc : cycB E L = loopsB E y := by rw [← hy]; exact cyc_one (by rw [← HNL.out]; omega) (fun j h1 h2 => HA.out j h1 (by rw [HNL.out]; exact h2))
    have HCY := dh hc
    rw [e0]
    have hy0 : (0 : Int) ≤ (y : Int) := by omega
    have HC := dh (HLP.out y hyN)
    clear e0 hc hy hyN
    go_wp2_with fail
    refine HC.out.mono ?_
    rintro e w1 ⟨rfl, hb1⟩
    have HB1 := dh (HB0.out.trans (hb1.mono (by omega)))
    clear hb1
    go_wp2_with fail
    go_ret
    exact ⟨ret_bool HCY.out.symm, HB1.out⟩
end Go.Proofs.YtiebpncpdbnelaaGreatDoor
namespace Go.Proofs.YtiebpncpdbnelaaGreatDoor
open Go Go.RowKit
theorem Tch.then_ {M : Nat → Prop} {A B C : World} (h : Tch M A B) (k : Tch M B C) : Tch M A C := h.trans k (fun _ _ e => e)
theorem Tch.wide {M M' : Nat → Prop} {W W' : World} (h : Tch M W W') (hM : ∀ k, M k → M' k) : Tch M' W W' := h.mono (fun k _ => hM k)
theorem Tch.putObj {M : Nat → Prop} {w W : World} (h : Tch M w W) {l : Nat} (o : Obj) (hl : l < w.1.size → M l) : Tch M w (W.putObj l o) :=
 ⟨h.os, h.tape, h.output, by simpa using h.size, fun k hk hm => (World.putObj_heap_other (fun e => by subst e; exact hm (hl hk))).trans (h.block k hk hm)⟩
theorem Tch.cell {M : Nat → Prop} {W W' : World} (h : Tch M W W') {p : Addr} (hp : p.block < W.1.size) (hm : ¬ M p.block) : W'.cell? p = W.cell? p := World.cell?_of_block (w := W) (h.block p.block hp hm)
theorem Tch.grown {M : Nat → Prop} {w W W' : World} (h : Tch M w W) {row : Option Nat} (hg : W.grownBy W' row) (hr : ∀ k, row = some k → k < w.1.size → M k) : Tch M w W' :=
 h.trans (Tch.of_grown hg) (fun k hk e => hr k e hk)
theorem cell_al {W : World} {a : Addr} {v : Value} (o : Obj) (h : W.cell? a = some v) : (W.alloc o).cell? a = some v := cell_kept h (World.grownBy_alloc W o none) (fun r e => by cases e)
theorem boxed_tch {M : Nat → Prop} {W W' : World} {B : Nat} {t : TypeId} {v : Value} (h : Boxed W B t v) (ht : Tch M W W') (hm : ¬ M B) : Boxed W' B t v := ht.blk h hm
theorem yieldAt_any {m : Nat} (m' : Nat) {P : Program} {l : Nat} {args : Array Value} {W : World} {R : Ending → World → Prop} (h : YieldAt Fence.wide m P l args W R) : YieldAt Fence.wide m' P l args W R := by
 obtain ⟨fn, tmps, assign, body, hy, hR⟩ := h
 exact ⟨fn, tmps, assign, body, hy, hR.1, fun c cs _ => hR.2 c cs (fun d h => by cases h)⟩
theorem ownFrom_tch {β : Type} {M : Nat → Prop} {B : Nat} {w₀ : World} (hB : w₀.1.size ≤ B) : OwnFrom B (fun (_ : β) W => Tch M w₀ W) :=
 fun _ X Y row hs hg hr => hs.grown hg (fun k e hk => by have := (hr k e).1; omega)
theorem ownFrom_mono {β : Type} {B B' : Nat} {I : β → World → Prop} (h : OwnFrom B I) (hB : B ≤ B') : OwnFrom B' I := fun s X Y row hs hg hr => h s X Y row hs hg (fun r e => ⟨Nat.le_trans hB (hr r e).1, (hr r e).2⟩)
structure Rnd (M : Nat → Prop) (W : World) (M' : Nat → Prop) (W' : World) : Prop where
 tch : Tch M W W'
 old : ∀ k, k < W.1.size → M' k → M k
 lt : ∀ k, M' k → k < W'.1.size
theorem Rnd.refl {M : Nat → Prop} {W : World} (h : ∀ k, M k → k < W.1.size) : Rnd M W M W := ⟨Tch.refl _ _, fun _ _ e => e, h⟩
theorem Rnd.of_tch {M : Nat → Prop} {W W' : World} (ht : Tch M W W') (h : ∀ k, M k → k < W.1.size) : Rnd M W M W' := ⟨ht, fun _ _ e => e, fun k e => Nat.lt_of_lt_of_le (h k e) ht.size⟩
theorem Rnd.trans {M M1 M2 : Nat → Prop} {A B C : World} (h : Rnd M A M1 B) (k : Rnd M1 B M2 C) : Rnd M A M2 C :=
 ⟨h.tch.trans k.tch (fun i hi e => h.old i hi e), fun i hi e => h.old i hi (k.old i (Nat.lt_of_lt_of_le hi h.tch.size) e), k.lt⟩
theorem Rnd.tch_right {M M1 : Nat → Prop} {A B C : World} (h : Rnd M A M1 B) (k : Tch M1 B C) : Rnd M A M1 C := h.trans (Rnd.of_tch k h.lt)
theorem Rnd.not {M M' : Nat → Prop} {W W' : World} (h : Rnd M W M' W') {k : Nat} (hk : k < W.1.size) (hm : ¬ M k) : ¬ M' k := fun e => hm (h.old k hk e)
theorem ownFrom_rnd {β : Type} {M : Nat → Prop} {B : Nat} {w₀ : World} (hB : w₀.1.size ≤ B) (f : β → Nat → Prop) : OwnFrom B (fun s W => Rnd M w₀ (f s) W) :=
 fun s X Y row hs hg hr => ⟨ownFrom_tch (β := β) hB s X Y row hs.tch hg hr, hs.old, fun k e => Nat.lt_of_lt_of_le (hs.lt k e) hg.size⟩
def ext (l : Nat) (M : Nat → Prop) : Nat → Prop := fun k => M k ∨ k = l
theorem Rnd.ext {l : Nat} {M M' : Nat → Prop} {W W' : World} (h : Rnd M W M' W') (hl : l < W.1.size) : Rnd (ext l M) W (ext l M') W' :=
 ⟨h.tch.wide (fun _ e => .inl e), fun k hk e => e.elim (fun e => .inl (h.old k hk e)) .inr, fun k e => e.elim (h.lt k) (fun e => by subst e; exact Nat.lt_of_lt_of_le hl h.tch.size)⟩
def SeqT {α : Type} (F : Fence) (n : Nat) (P : Program) (g : Nat) (lb : Array Value) (encs : α → Array Value) (M : Nat → Prop) (L : List α) (w : World) : Prop :=
 ∀ (l : Nat) (J Jx : List α × (Nat → Prop) → World → Prop) (W : World), Tch (fun _ => False) w W → w.1.size ≤ l → l < W.1.size → OwnFrom W.1.size J → OwnFrom W.1.size Jx →
  (∀ pre x N W1, J (pre, N) W1 → pre ++ [x] <+: L → YieldAt F (n - 1) P l (encs x) W1 fun e W' => ∃ N', Rnd N W1 N' W' ∧
   ((e = .returned (.bool true) ∧ J (pre ++ [x], N') W') ∨ (e = .returned (.bool false) ∧ Jx (pre ++ [x], N') W'))) →
  J ([], ext l M) W →
  CallsIn F n P g (#[.func (.yield l) #[] #[]] ++ lb) W fun e W' => (∃ v, e = .returned v) ∧ ((∃ N, J (L, N) W') ∨ (∃ pre N, pre <+: L ∧ Jx (pre, N) W'))
def postT {α : Type} (I : List α × (Nat → Prop) → World → Prop) (Ix : Code → List α × (Nat → Prop) → World → Prop) (xs : List α) (N : Nat → Prop) (W : World) : Exit → Act → World → Prop
 | .normal, _, W' => ∃ N', Rnd N W N' W' ∧ I (xs, N') W'
 | .ret, _, W' => ∃ N', Rnd N W N' W' ∧ Ix .ret (xs, N') W'
 | .exit id, _, W' => ∃ N', Rnd N W N' W' ∧ Ix (.exit id) (xs, N') W'
 | .goto t, _, W' => ∃ N', Rnd N W N' W' ∧ Ix (.goto t) (xs, N') W'
 | .panic _, _, _ => False
 | .outgrown, _, _ => False
variable {F : Fence} {n : Nat} {P : Program}
theorem wpIn_rangeFunc_T {α : Type} {g : Operand} {ps : Array Tmp} {assign body : Code} {Q : Exit → Act → World → Prop} {a : Act} {w : World}
  (hro : F.round = none) (h1 : 1 ≤ n) {gf : Nat} {lb : Array Value} (hg : a.eval g = .func (.func gf) #[] lb) (hFg : F.fn gf) (eg : ∀ args w, (callFunc gf args).run P w = .ok (.enter gf args) w)
  {encs : α → Array Value} {M : Nat → Prop} {L : List α} (hseq : SeqT F (n - 1) P gf lb encs M L w) (hM : ∀ k, M k → k < w.1.size) (hps : ∀ x, (encs x).size = ps.size)
  (I : List α × (Nat → Prop) → World → Prop) (Ix : Code → List α × (Nat → Prop) → World → Prop) (hI : OwnFrom w.1.size I) (hIx : ∀ c, OwnFrom w.1.size (Ix c)) (h0 : I ([], M) w) (Ax : α → Act → World → Prop) (hAx : ∀ x a', OwnFrom w.1.size (fun (_ : Unit) W => Ax x a' W))
  (hassign : ∀ (l : Nat) (pre : List α) (x : α) (N : Nat → Prop) (W : World) (K : Act → World → Prop), I (pre, N) W → pre ++ [x] <+: L → (∀ a' W', Tch N W W' → I (pre, N) W' → Ax x a' W' → K a' W') →
   assign.wpIn (F.inRound l) (n - 1 - 1) P (Exit.then K (fun _ _ _ => False)) { tmps := (ps.zip (encs x)).foldl (fun t (p, v) => t.setIfInBounds p v) a.tmps, defers := [] } W)
  (hbody : ∀ (l : Nat) (pre : List α) (x : α) (N : Nat → Prop) (a' : Act) (W : World), w.1.size ≤ l → ¬ N l → (∃ r, W.1[l]? = some (.loop r)) → (∀ k, N k → k < W.1.size) → I (pre, N) W → Ax x a' W → pre ++ [x] <+: L → body.wpIn (F.inRound l) (n - 1 - 1) P (postT I Ix (pre ++ [x]) N W) a' W)
  (hdone : ∀ (D : Nat) (N : Nat → Prop) (W : World), w.1.size ≤ D → ¬ N D → I (L, N) W → W.1[D]? = some (.deferred (some [])) → Q .normal { a with defers := { target := .collected D, args := #[] } :: a.defers } W)
  (hstop : ∀ (D : Nat) (c : Code) (pre : List α) (N : Nat → Prop) (W : World), w.1.size ≤ D → ¬ N D → pre <+: L → Ix c (pre, N) W → W.1[D]? = some (.deferred (some [])) → c.wpIn F n P Q { a with defers := { target := .collected D, args := #[] } :: a.defers } W) :
  (Code.rangeFunc g ps assign body).wpIn F n P Q a w := by
 refine wpIn_rangeFunc ?_
 intro fn hfn
 rw [hro]
 obtain ⟨rec, hrec⟩ : ∃ rec : LoopState → Option Code → Loop, rec = fun st pe => { state := st, pending := pe, fn, tmps := a.tmps, params := ps, assign, body, defers := w.1.size } := ⟨_, rfl⟩
 obtain ⟨W1, hW1⟩ := xQ ((w.alloc (.deferred (some []))).alloc (.loop (rec .ready none)))
 have hL1 : W1.1[w.1.size + 1]? = some (.loop (rec .ready none)) := by
  rw [← hW1]; have := World.alloc_heap_new (w.alloc (.deferred (some []))) (.loop (rec .ready none)); rwa [World.size_alloc] at this
 have hK1 : W1.1[w.1.size]? = some (.deferred (some [])) := by
  rw [← hW1]; exact (Below.heap_alloc _ _ _ (by simp)).trans (World.alloc_heap_new w _)
 have hI1 : I ([], M) W1 := by rw [← hW1]; exact hI.alloc _ (hI.alloc _ h0)
 have hb1 : Tch (fun _ => False) w W1 := by
  rw [← hW1]; exact ((Tch.refl _ _).alloc _).alloc _
 have hs1 : W1.1.size = w.1.size + 2 := by rw [← hW1]; simp
 refine ⟨w.1.size + 1, [{ target := .collected w.1.size, args := #[] }], W1, { target := .fn (.func gf) lb, args := #[.func (.yield (w.1.size + 1)) #[] #[]] }, W1, gf,
  #[.func (.yield (w.1.size + 1)) #[] #[]] ++ lb, W1, ?_, ?_, ?_, ?_, fun _ => h1, ?_⟩
 ·rw [← hW1, hrec]; exact run_enterLoop_outer _ _ _ _ _
 ·simp only [resolve, hg]
  simp [go_sem]
 ·intro f' hf'; simp [Target.leads] at hf'; subst hf'; exact hFg
 ·simp [invoke, go_sem, eg]
 ·refine (hseq (w.1.size + 1)
   (fun s W => ∃ N, s.2 = ext (w.1.size + 1) N ∧ (∀ k, N k → k < W.1.size) ∧ (¬ N (w.1.size + 1) ∧ ¬ N w.1.size) ∧ I (s.1, N) W ∧ W.1[w.1.size + 1]? = some (.loop (rec .ready none)) ∧ W.1[w.1.size]? = some (.deferred (some [])))
   (fun s W => ∃ c N, s.2 = ext (w.1.size + 1) N ∧ ¬ N w.1.size ∧ Ix c (s.1, N) W ∧ W.1[w.1.size + 1]? = some (.loop (rec .done (some c))) ∧ W.1[w.1.size]? = some (.deferred (some [])))
   W1 hb1 (by omega) (by omega)
   (fun s A B row hs hg' hr => by
    obtain ⟨N, e, hlt, hnn, hi, hl, hk⟩ := hs
    exact ⟨N, e, fun k h => Nat.lt_of_lt_of_le (hlt k h) hg'.size, hnn, hI _ A B row hi hg' (fun r e => ⟨by have := (hr r e).1; omega, (hr r e).2⟩),
     (hg'.block _ (aI.1 hl).1 (fun e => by have := (hr _ e.symm).1; omega)).trans hl,
     (hg'.block _ (aI.1 hk).1 (fun e => by have := (hr _ e.symm).1; omega)).trans hk⟩)
   (fun s A B row hs hg' hr => by
    obtain ⟨c, N, e, hn, hc, hl, hk⟩ := hs
    exact ⟨c, N, e, hn, hIx c _ A B row hc hg' (fun r e => ⟨by have := (hr r e).1; omega, (hr r e).2⟩),
     (hg'.block _ (aI.1 hl).1 (fun e => by have := (hr _ e.symm).1; omega)).trans hl,
     (hg'.block _ (aI.1 hk).1 (fun e => by have := (hr _ e.symm).1; omega)).trans hk⟩)
   ?_ ⟨M, rfl, fun k h => by have := hM k h; omega, ⟨fun h => by have := hM _ h; omega, fun h => by have := hM _ h; omega⟩, hI1, hL1, hK1⟩).mono ?_
  ·-- ONE ROUND
   rintro pre x _ W ⟨N, rfl, hN, ⟨n1, n2⟩, hi, hl, hk⟩ hlen
   have hlt : w.1.size + 1 < W.1.size := (aI.1 hl).1
   have hy := run_yield (P := P) (args := encs x) hl (by rw [hrec]; exact hps x)
   rw [hrec] at hy
   refine ⟨fn, _, assign, body, hy, roundIn_of_wpIn hfn (hassign _ pre x N W _ hi hlen ?_)⟩
   clear hy
   intro a' Wa htch hia hax
   replace hl := (htch.block _ hlt n1).trans hl
   replace hk := (htch.block _ (by omega) n2).trans hk
   have hlt' : w.1.size + 1 < Wa.1.size := (aI.1 hl).1
   refine ⟨_, run_beginRound hl (by rw [hrec]), ?_⟩
   obtain ⟨Wb, hWb⟩ := xQ (Wa.putObj (w.1.size + 1) (.loop { rec .ready none with state := .busy }))
   have hl2 : Wb.1[w.1.size + 1]? = some (.loop { rec .ready none with state := .busy }) := by rw [← hWb]; exact World.putObj_heap_same hlt'
   have hk2 : Wb.1[w.1.size]? = some (.deferred (some [])) := by rw [← hWb]; exact (World.putObj_heap_other (by omega)).trans hk
   have hw2 : Rnd (ext (w.1.size + 1) N) W (ext (w.1.size + 1) N) Wb := by
    rw [← hWb]
    exact Rnd.of_tch ((htch.wide (fun _ h => .inl h)).putObj _ (fun _ => .inr rfl)) (fun k h => h.elim (hN k) (fun e => by omega))
   have hsz : w.1.size + 1 < Wb.1.size := (aI.1 hl2).1
   have hib : I (pre, N) Wb := by rw [← hWb]; exact hI.putObj _ hia (by omega) hl rfl
   have hab : Ax x a' Wb := by rw [← hWb]; exact (hAx x a').putObj (s := ()) _ hax (by omega) hl rfl
   have hNb : ∀ k, N k → k < Wb.1.size := fun k h => by have h1 := hN k h; have h2 := hw2.tch.size; omega
   show body.wpIn _ _ _ _ a' (Wa.putObj (w.1.size + 1) (.loop { rec .ready none with state := .busy }))
   rw [hWb]
   refine wpIn_mono (hbody _ pre x N a' _ (by omega) n1 ⟨_, hl2⟩ hNb hib hab hlen) ?_
   have fin : ∀ (jump : Option Code) (N' : Nat → Prop) (W3 : World), Rnd N Wb N' W3 →
     (Instr.endRound (w.1.size + 1) jump).run P W3 = .ok (.bool jump.isNone) (W3.putObj (w.1.size + 1) (.loop (rec (if jump.isNone then .ready else .done) jump))) ∧
     W3.1[w.1.size + 1]? = some (.loop { rec .ready none with state := .busy }) ∧
     (W3.putObj (w.1.size + 1) (.loop (rec (if jump.isNone then .ready else .done) jump))).1[w.1.size + 1]? = some (.loop (rec (if jump.isNone then .ready else .done) jump)) ∧
     (W3.putObj (w.1.size + 1) (.loop (rec (if jump.isNone then .ready else .done) jump))).1[w.1.size]? = some (.deferred (some [])) ∧
     Rnd (ext (w.1.size + 1) N) W (ext (w.1.size + 1) N') (W3.putObj (w.1.size + 1) (.loop (rec (if jump.isNone then .ready else .done) jump))) := fun jump N' W3 hk3 => by
    have hl3 := (hk3.tch.block _ hsz n1).trans hl2
    have := run_endRound (P := P) jump hl3
    rw [hrec] at this ⊢
    refine ⟨this, by rw [hrec] at hl3; exact hl3, World.putObj_heap_same (aI.1 hl3).1, (World.putObj_heap_other (by omega)).trans ((hk3.tch.block _ (by omega) n2).trans hk2), ?_⟩
    exact (hw2.trans (hk3.ext hsz)).tch_right ((Tch.refl _ _).putObj _ (fun _ => .inr rfl))
   rintro e a3 W3 hp
   cases e with
   | normal =>
    obtain ⟨N', hk3, hi3⟩ := hp
    obtain ⟨hr, hl3, hl4, hk4, ht4⟩ := fin none N' W3 hk3
    exact ⟨_, _, hr, _, ht4, .inl ⟨rfl, N', rfl, fun k h => ht4.lt k (.inl h), ⟨hk3.not hsz n1, hk3.not (by omega) n2⟩, hI.putObj _ hi3 (by omega) hl3 rfl, hl4, hk4⟩⟩
   | ret =>
    obtain ⟨N', hk3, hi3⟩ := hp
    obtain ⟨hr, hl3, hl4, hk4, ht4⟩ := fin (some .ret) N' W3 hk3
    exact ⟨_, _, hr, _, ht4, .inr ⟨rfl, .ret, N', rfl, hk3.not (by omega) n2, (hIx _).putObj _ hi3 (by omega) hl3 rfl, hl4, hk4⟩⟩
   | exit id =>
    obtain ⟨N', hk3, hi3⟩ := hp
    obtain ⟨hr, hl3, hl4, hk4, ht4⟩ := fin (some (.exit id)) N' W3 hk3
    exact ⟨_, _, hr, _, ht4, .inr ⟨rfl, .exit id, N', rfl, hk3.not (by omega) n2, (hIx _).putObj _ hi3 (by omega) hl3 rfl, hl4, hk4⟩⟩
   | goto t =>
    obtain ⟨N', hk3, hi3⟩ := hp
    obtain ⟨hr, hl3, hl4, hk4, ht4⟩ := fin (some (.goto t)) N' W3 hk3
    exact ⟨_, _, hr, _, ht4, .inr ⟨rfl, .goto t, N', rfl, hk3.not (by omega) n2, (hIx _).putObj _ hi3 (by omega) hl3 rfl, hl4, hk4⟩⟩
   | panic ch => exact hp.elim
   | outgrown => exact hp.elim
  ·-- BEHIND THE ITERATOR
   rintro e W2 ⟨⟨v, rfl⟩, (⟨_, N, rfl, _, ⟨_, n2⟩, hi, hl, hk⟩ | ⟨pre, _, hSp, c, N, rfl, n2, hi, hl, hk⟩)⟩
   ·exact ⟨none, _, by have := run_endLoop (P := P) hl (by rw [hrec]; simp); rw [hrec] at this; exact this, hdone _ N _ lR n2 (hI.putObj _ hi (by omega) hl rfl) ((World.putObj_heap_other (by omega)).trans hk)⟩
   ·exact ⟨some c, _, by have := run_endLoop (P := P) hl (by rw [hrec]; simp); rw [hrec] at this; exact this, hstop _ c pre N _ lR n2 hSp ((hIx c).putObj _ hi (by omega) hl rfl) ((World.putObj_heap_other (by omega)).trans hk)⟩
def marksOf (Ds : List Nat) : List Deferred := Ds.map fun D => { target := .collected D, args := #[] }
def Marks (B : Nat) (Ds : List Nat) (W : World) : Prop := Ds.Nodup ∧ ∀ D ∈ Ds, B ≤ D ∧ W.1[D]? = some (.deferred (some []))
theorem Marks.nil (B : Nat) (W : World) : Marks B [] W := ⟨List.nodup_nil, fun _ h => by cases h⟩
theorem Marks.cons {B D : Nat} {Ds : List Nat} {W : World} (h : Marks B Ds W) (hB : B ≤ D) (hD : W.1[D]? = some (.deferred (some []))) (hn : D ∉ Ds) : Marks B (D :: Ds) W :=
 ⟨List.nodup_cons.2 ⟨hn, h.1⟩, fun E hE => by rcases List.mem_cons.1 hE with rfl | hE; exact ⟨hB, hD⟩; exact h.2 E hE⟩
theorem Marks.lt {B D : Nat} {Ds : List Nat} {W : World} (h : Marks B Ds W) (hD : D ∈ Ds) : D < W.1.size := (aI.1 (h.2 D hD).2).1
theorem Marks.tch {B : Nat} {Ds : List Nat} {W W' : World} {M : Nat → Prop} (h : Marks B Ds W) (ht : Tch M W W') (hM : ∀ D ∈ Ds, ¬ M D) : Marks B Ds W' :=
 ⟨h.1, fun D hD => ⟨(h.2 D hD).1, (ht.block D (h.lt hD) (hM D hD)).trans (h.2 D hD).2⟩⟩
theorem leaves_marks {fn : Func} {tmps : Array Value} {R : Ending → World → Prop} {B : Nat} {K : World → Prop} (hK : OwnFrom B (fun (_ : Unit) W => K W)) (hR : ∀ W, K W → LeavesIn F n P fn tmps R [] .returning W) :
  ∀ (Ds : List Nat) (W : World), Marks B Ds W → K W → LeavesInM F n P fn tmps R (marksOf Ds) .returning W := by
 intro Ds
 induction Ds with
 | nil => intro W _ hk; exact hR W hk
 | cons D Ds ih =>
  intro W hm hk
  have hD := hm.2 D (List.mem_cons_self ..)
  refine ⟨by simp, .inl ⟨D, _, rfl, run_takeDeferred hD.2, ih _ ⟨(List.nodup_cons.1 hm.1).2, fun E hE => ?_⟩ (hK.putObj (s := ()) _ hk hD.1 hD.2 rfl)⟩⟩
  have hE' := hm.2 E (List.mem_cons_of_mem _ hE)
  exact ⟨hE'.1, (World.putObj_heap_other (fun e => (List.nodup_cons.1 hm.1).1 (by rw [← e]; exact hE))).trans hE'.2⟩
end Go.Proofs.YtiebpncpdbnelaaGreatDoor
