/- Texts that stand one behind the other, in one file. -/
import Derived.Test.YtiebpncpdbnelaaGreatDoorZal
set_option maxHeartbeats 4000000
set_option maxRecDepth 100000
namespace Go.Proofs.YtiebpncpdbnelaaGreatDoor
open Go.RowKit
theorem own_setB {w : World} {base q ne t : Nat} {D : List Bool} {d : Bool} (h : w.ownsRow base 4 1 (.slice (some ⟨q, 0, none⟩) ne ne) ne (bcells D)) :
  (w.setCell ⟨q, t, none⟩ (.bool d)).ownsRow base 4 1 (.slice (some ⟨q, 0, none⟩) ne ne) ne (bcells (D.set t d)) := by
 have := (h.stored t (.bool d)).1
 rw [bcells, List.map_set]; exact this
theorem own_getB {w : World} {base q ne t : Nat} {D : List Bool} (h : w.ownsRow base 4 1 (.slice (some ⟨q, 0, none⟩) ne ne) ne (bcells D)) (ht : t < ne) :
  w.cell? ⟨q, t, none⟩ = some (.bool (D.getD t false)) ∧ w.frozen? ⟨q, t, none⟩ = false ∧ q < w.1.size ∧ D.length = ne := by
 have hl : D.length = ne := by have := h.1; simpa [bcells] using this
 refine ⟨?_, h.frozenAt t, (h.lt q rfl).2, hl⟩
 rw [h.cellAt t (by omega)]
 simp [bcells, List.getD, hl, ht]
theorem row_setB {n k : Nat} (hk : k < n) (f : Nat → Bool) (z : Bool) : ((List.range k).map f ++ List.replicate (n - k) z).set k (f k) = (List.range (k + 1)).map f ++ List.replicate (n - (k + 1)) z := by
 refine List.ext_getElem (by simp; omega) (fun i h1 h2 => ?_)
 rw [List.getElem_set]
 simp only [List.getElem_append, List.getElem_replicate, List.getElem_map, List.getElem_range, List.length_map, List.length_range]
 by_cases e : k = i
 ·subst e; simp
 ·rw [if_neg e]
  by_cases e2 : i < k
  ·rw [dif_pos e2, dif_pos (by omega)]
  ·rw [dif_neg e2, dif_neg (by omega)]
theorem row_setB0 {n k : Nat} (_hk : k < n) (f : Nat → Bool) (z : Bool) : ((List.range k).map f ++ List.replicate (n - k) z).set k z = (List.range k).map f ++ List.replicate (n - k) z := by
 refine List.ext_getElem (by simp) (fun i h1 h2 => ?_)
 rw [List.getElem_set]
 split
 ·rename_i e; subst e
  rw [List.getElem_append_right (by simp)]; simp
 ·rfl
def behE (n : Nat) (E : List (List Nd)) (goal : List Bool) : List Bool := (List.range n).map fun i => (E.getD i []).any (fun e => (backG n E goal).getD e.op.toNat false)
theorem behE_step (E : List (List Nd)) (z : List Bool) (ask : Nat → Bool) : behE z.length (withinE E z) (goalZ z ask) = stepZ E z ask := rfl
section
variable (ai ae al : Option Addr) (ni ci ne ce nl cl : Nat)
theorem behind30_any (G : Gph) (goal : List Bool) (Am : Option Addr) (cm : Nat) (w : World) (B : Nat) (h : GrRd w B ai ni ci ae ne ce al nl cl G) (hms : Sl w B 1 Am ne cm (goal.map .bool)) (hmn : ne = goal.length) (hin : ∀ l ∈ G.edges, ∀ e ∈ l, isNd ne e.op = true) (hB : B ≤ w.1.size) (hni : ni ≤ 1000000000) (hnl : nl ≤ 1000000000) (he : ne ≤ 65536) (K : Nat) (hr : ∀ l ∈ G.edges, l.length ≤ K) (hK : ne * K ≤ 1000000000) (hK2 : K ≤ 1000000000) :
  Calls Tryz.prog 78 #[.agg #[.slice ai ni ci, .slice ae ne ce, .slice al nl cl], .slice Am ne cm] w (NewRow w 4 1 ne (bcells (behE ne G.edges goal)) False) := by
 obtain ⟨w0, hw0, hb0, hz0, hx0, hx1, hx2⟩ := boxed3 w (.slice ai ni ci) (.slice ae ne ce) (.slice al nl cl) 55
 have HW0 := dh hw0
 clear hw0
 have h' := h.below hb0 hB
 have hm' := hms.below hb0 hB
 have HBK := dh (backR_any ai ae al ni ci ne ce nl cl G goal Am ne cm w0 w0.1.size (h'.up (by omega)) (hm'.up (by omega)) hmn lR hni he hnl (by omega) K hr hK hK2)
 have hmk := run_make_row' (P := Tryz.prog) 48 4 (.bool false) 1 Tryz.underlying48 infoBool rfl .i64 .i64 ne (by omega) (by omega)
 have HLE := dh h.lens.2.1
 have hzl : w.1.size < w0.1.size := by omega
 have HIN := dh hin
 have HR := dh hr
 clear hin h hms hr hmn
 go_enter Tryz.func78, Tryz.ntmps78
 go_wp2_with fail
 rw [← HW0.out]
 refine HBK.out.mono ?_
 rintro e w2 ⟨v, rfl, hback, hb2, _⟩
 obtain ⟨Ab, cb, rfl, hsb⟩ := own_sl hback
 have hz2s := hb2.size
 have g1 := bC hb2 hzl hx1
 have hlw2 : w.1.size < w2.1.size := by omega
 have hbw2 : Below w.1.size w w2 := hb0.trans (hb2.mono (by omega))
 clear HBK hback hx0 hx1 hx2
 go_wp2
 obtain ⟨go, hgo⟩ := xR w2.1.size
 obtain ⟨f, hf⟩ : ∃ f : Nat → Bool, f = fun i => (G.edges.getD i []).any (fun e => (backG ne G.edges goal).getD e.op.toNat false) := ⟨_, rfl⟩
 have hF1 : ∃ W2, W2 = (w2.alloc (.cells (madeCells #[.bool false] ne) 4)) ∧ W2.ownsRow go 4 1 (.slice (some ⟨go, 0, none⟩) ne ne) ne (bcells ((List.range 0).map f ++ List.replicate (ne - 0) false)) ∧ Below go w2 W2 := by
  refine ⟨_, rfl, ?_, bR.alloc (by rw [hgo]; exact lR) _⟩
  have := own_made (w := w2) (base := go) (e := 4) (n := ne) (v := .bool false) (by rw [hgo]; exact lR) (by unfold maxLen; omega)
  rw [← hgo] at this
  simpa [bcells] using this
 obtain ⟨W2, hW2, hown2, hbW2⟩ := hF1
 rw [← hW2, ← hgo]
 have hgo1 : go ≤ w2.1.size := by omega
 have hgo2 : w2.1.size ≤ go := by omega
 have hfz : ∀ i, f i = (G.edges.getD i []).any (fun e => (backG ne G.edges goal).getD e.op.toNat false) := fun i => by rw [hf]
 have hfs : (List.range ne).map f = behE ne G.edges goal := by rw [behE, hf]
 have HFZ := dh hfz
 have HFS := dh hfs
 have hbl : (backG ne G.edges goal).length = ne := reachG_len _ _ _
 have HBL := dh hbl
 have hG2 := (h'.below hb2 (by omega)).he
 generalize backG ne G.edges goal = bk at *
 clear hf hfz hfs hW2 hgo hbl hmk
 go_loopw [7, 8] (fun i _ wx => ∃ k : Nat, k ≤ ne ∧ i = .int .i64 k ∧ wx.ownsRow go 4 1 (.slice (some ⟨go, 0, none⟩) ne ne) ne (bcells ((List.range k).map f ++ List.replicate (ne - k) false)) ∧ Below go w2 wx) (fun i _ _ => ne - (intOf i).toNat)
 case atStart => exact ⟨0, by omega, rfl, hown2, hbW2⟩
 case round =>
  obtain ⟨k, hk, rfl, hR, hbx⟩ := hrel
  obtain ⟨wp, rfl⟩ : ∃ wp : World, wp = wr := ⟨_, rfl⟩
  clear hown2
  by_cases hlt : k < ne
  ·have hkG : k < G.edges.length := by rw [← HLE.out]; exact hlt
   have hkE : k < G.edges.length := hkG
   obtain ⟨b, o, A', n', c', hae, hbb, hc00, hrow⟩ := hG2.at_ (ed_take hkE)
   subst hae
   have hlen := HR.out _ (mM hkE)
   have hnx : n' = (G.edges[k]).length := by have := hrow.len; rw [ncells_len] at this; omega
   have hxg : G.edges.getD k [] = G.edges[k] := by simp [List.getD, hkE]
   have hxm := HIN.out _ (mM hkE)
   have hfk := HFZ.out k
   rw [hxg] at hfk
   have hR0 : wp.ownsRow go 4 1 (.slice (some ⟨go, 0, none⟩) ne ne) ne (bcells (((List.range k).map f ++ List.replicate (ne - k) false).set k (((G.edges[k]).take 0).any (fun e => bk.getD e.op.toNat false)))) := by
    rw [List.take_zero, List.any_nil, row_setB0 hlt f false]; exact hR
   have hrs := row_setB hlt f false
   have hbsl : ((List.range k).map f ++ List.replicate (ne - k) false).length = ne := by simp; omega
   generalize (List.range k).map f ++ List.replicate (ne - k) false = base at *
   generalize G.edges[k] = x at *
   subst hnx
   have HRS := dh hrs
   have HFK := dh hfk
   have HBS := dh hbsl
   have i0 : (0 : Int) ≤ (k : Int) := by omega
   have i1 : (k : Int) < (ne : Int) := by omega
   have G1 := dh g1
   clear hrs hfk hxg hR hbsl g1
   go_wp2
   go_loopw [8] (fun i wx => ∃ m : Nat, m ≤ x.length ∧ i = .int .i64 m ∧ wx.ownsRow go 4 1 (.slice (some ⟨go, 0, none⟩) ne ne) ne (bcells (base.set k ((x.take m).any (fun e => bk.getD e.op.toNat false)))) ∧ Below go w2 wx) (fun i _ => x.length - (intOf i).toNat)
   case atStart => exact ⟨0, by omega, rfl, hR0, hbx⟩
   case round =>
    obtain ⟨m, hm, rfl, hR, hbr⟩ := hrel
    clear hR0 hbx
    have hc0 := bC hbr (by omega) hc00
    have hg1 := bC hbr (by omega) G1.out
    by_cases hltm : m < x.length
    ·obtain ⟨bb, oo, rfl, hbbb, hd0, hd1⟩ := rd_nd (hrow.rd.below hbr (by omega)) hltm
     have hop := hxm _ (mM hltm)
     have hac : (x.take (m + 1)).any (fun e => bk.getD e.op.toNat false) = ((x.take m).any (fun e => bk.getD e.op.toNat false) || bk.getD (x[m]).op.toNat false) := by
      rw [take_snoc x m hltm, List.any_append]; simp
     generalize (x.take m).any (fun e => bk.getD e.op.toNat false) = a0 at *
     generalize x[m] = e at *
     obtain ⟨op, act⟩ := e
     dsimp only at *
     obtain ⟨j, rfl, hjl⟩ := isNd_nat hop
     rw [tN] at hac
     obtain ⟨b2, o2, hab, hb20, hbc⟩ := (hsb.rd.below hbr (by omega)).at_ (bcells'_at (show j < bk.length by rw [HBL.out]; exact hjl))
     subst hab
     obtain ⟨q0, q1, q2, _⟩ := own_getB hR hlt
     rw [getD_set_same (by rw [HBS.out]; exact hlt)] at q0
     have HRH := dh hR
     have hszw := hbr.size
     have i2 : (0 : Int) ≤ (j : Int) := by omega
     have i3 : (j : Int) < (ne : Int) := by omega
     have m0 : (0 : Int) ≤ (m : Int) := by omega
     have m1 : (m : Int) < (x.length : Int) := by omega
     have k1 : b2 < wr.1.size := by omega
     have k2 : bb < wr.1.size := by omega
     have HAC := dh hac
     generalize bk.getD j false = bv at *
     have HW : ∀ v, Hid ((wr.setCell ⟨go, k, none⟩ (.bool v)).ownsRow go 4 1 (.slice (some ⟨go, 0, none⟩) ne ne) ne (bcells (base.set k v)) ∧ Below go w2 (wr.setCell ⟨go, k, none⟩ (.bool v))) := fun v => by
      have h1 := own_setB (t := k) (d := v) HRH.out
      rw [List.set_set] at h1
      exact dh ⟨h1, hbr.setCell (p := ⟨go, k, none⟩) lR (.bool v)⟩
     clear hac hop hR hbr
     cases a0
     ·go_wp2
      go_roundw
      case rel => exact ⟨m + 1, by omega, by go_num, by rw [HAC.out, Bool.false_or]; exact (HW bv).out.1, (HW bv).out.2⟩
      case measure => simp [intOf]; omega
     ·go_wp2
      go_roundw
      case rel => exact ⟨m + 1, by omega, by go_num, by rw [HAC.out, Bool.true_or]; exact (HW true).out.1, (HW true).out.2⟩
      case measure => simp [intOf]; omega
    ·have hml : m = x.length := by omega
     rw [hml, List.take_length, ← HFK.out, HRS.out] at hR
     have HR := dh hR
     have HBR := dh hbr
     clear hml hR hbr
     go_wp2
     go_roundw
     case rel => exact ⟨k + 1, by omega, by go_num, HR.out, HBR.out⟩
     case measure => simp [intOf]; omega
  ·have hke : k = ne := by omega
   rw [hke, Nat.sub_self, List.replicate_zero, List.append_nil, HFS.out] at hR
   have HR := dh hR
   have HBX := dh (hbw2.trans (hbx.mono (by have := hbw2.size; omega)))
   have hws := hbw2.size
   clear hR hbx hke
   go_wp2
   go_ret
   exact ⟨_, rfl, own_base HR.out (by omega), HBX.out, by simp⟩
end
end Go.Proofs.YtiebpncpdbnelaaGreatDoor
namespace Go.Proofs.YtiebpncpdbnelaaGreatDoor
open Go.RowKit
theorem bits_and_one {x : Nat} (hx : x < 2 ^ 64) : bits .and .u64 (x : Int) 1 = ((x % 2 : Nat) : Int) := by
 show IntKind.u64.wrap ((BitVec.ofInt 64 (x : Int) &&& BitVec.ofInt 64 ((1 : Nat) : Int)).toNat : Int) = _
 rw [BitVec.toNat_and, BitVec.ofInt_natCast, BitVec.toNat_ofNat, BitVec.ofInt_natCast, BitVec.toNat_ofNat, Nat.mod_eq_of_lt hx, Nat.mod_eq_of_lt (by omega), Nat.and_one_is_mod, IntKind.wrap_u64]
 omega
theorem has_bit {x j : Nat} (hx : x < 2 ^ 64) : (bits .and .u64 ((x : Int) / 2 ^ j) 1 == 1) = x.testBit j := by
 have e : (x : Int) / 2 ^ j = ((x / 2 ^ j : Nat) : Int) := by simp
 rw [e, bits_and_one (Nat.lt_of_le_of_lt (Nat.div_le_self _ _) hx), Nat.testBit_eq_decide_div_mod_eq, Bool.eq_iff_iff]
 simp
 omega
theorem wrap_pow {j : Nat} (hj : j < 64) : IntKind.u64.wrap (2 ^ j) = ((2 ^ j : Nat) : Int) := by
 have hp : 2 ^ j ≤ 2 ^ 63 := Nat.pow_le_pow_right (by omega) (by omega)
 have e2 : (2 : Int) ^ j = ((2 ^ j : Nat) : Int) := by simp
 rw [IntKind.wrap_u64, e2]
 generalize 2 ^ j = c at hp ⊢
 omega
theorem pow_lt64 {j : Nat} (hj : j < 64) : 2 ^ j < 2 ^ 64 := Nat.pow_lt_pow_right (by omega) hj
theorem or_bit {x y : Nat} (hx : x < 2 ^ 64) (hy : y < 2 ^ 64) : bits .or .u64 (x : Int) (y : Int) = ((x ||| y : Nat) : Int) := by
 have hor : x ||| y < 2 ^ 64 := Nat.or_lt_two_pow hx hy
 show IntKind.u64.wrap ((BitVec.ofInt 64 (x : Int) ||| BitVec.ofInt 64 (y : Int)).toNat : Int) = _
 rw [BitVec.toNat_or, BitVec.ofInt_natCast, BitVec.toNat_ofNat, BitVec.ofInt_natCast, BitVec.toNat_ofNat, Nat.mod_eq_of_lt hx, Nat.mod_eq_of_lt hy, IntKind.wrap_u64]
 omega
def wcells (W : List Nat) : List Value := W.map (fun (x : Nat) => .int .u64 (x : Int))
def BSet (S q n : Nat) (W : List Nat) (w : World) : Prop :=
 w.1[S]? = some (.cells #[.int .i64 n, .slice (some ⟨q, 0, none⟩) W.length W.length] 85 (0, 0)) ∧ w.ownsRow 0 34 1 (.slice (some ⟨q, 0, none⟩) W.length W.length) W.length (wcells W) ∧
  W.length = (n + 63) / 64 ∧ (∀ x ∈ W, x < 2 ^ 64) ∧ n ≤ 65536
theorem blk2 {w : World} {g T : Nat} {a b : Value} (h : w.1[g]? = some (.cells #[a, b] T (0, 0))) : (w.cell? ⟨g, 0, none⟩ = some a ∧ w.cell? ⟨g, 1, none⟩ = some b) ∧ (w.frozen? ⟨g, 0, none⟩ = false ∧ w.frozen? ⟨g, 1, none⟩ = false) ∧ g < w.1.size :=
 ⟨⟨by rw [cell_of_row w g 0 _ _ _ h]; rfl, by rw [cell_of_row w g 1 _ _ _ h]; rfl⟩, ⟨frozen_of_row w g 0 _ _ h, frozen_of_row w g 1 _ _ h⟩, lt_of_block h⟩
theorem infoU : (Tryz.prog.info? 34).map (fun i => (i.zero, i.size, i.bytes)) = some (some (.int .u64 0), 1, 8) := by kernel_rfl
section
variable {S q n : Nat} {W : List Nat} {w w' : World}
theorem BSet.below (h : BSet S q n W w) (hb : Below w.1.size w w') : BSet S q n W w' :=
 ⟨(hb.block S (lt_of_block h.1)).trans h.1, own_below h.2.1 hb, h.2.2⟩
theorem BSet.tch {F : Nat → Prop} (h : BSet S q n W w) (ht : Tch F w w') (h1 : ¬ F S) (h2 : ¬ F q) : BSet S q n W w' :=
 ⟨ht.blk h.1 h1, own_tch h.2.1 ht (fun g hg => by simp [Value.ownBlock] at hg; subst hg; exact h2), h.2.2⟩
theorem BSet.ne (h : BSet S q n W w) : S ≠ q := fun e => own_ne_blk h.2.1 h.1 (by decide) (by rw [e]; rfl)
theorem BSet.lt (h : BSet S q n W w) : S < w.1.size ∧ q < w.1.size := ⟨lt_of_block h.1, (h.2.1.lt q rfl).2⟩
theorem BSet.at_ (h : BSet S q n W w) {j : Nat} (hj : j < W.length) : w.cell? ⟨q, j, none⟩ = some (.int .u64 (W.getD j 0 : Nat)) ∧ w.frozen? ⟨q, j, none⟩ = false ∧ W.getD j 0 < 2 ^ 64 := by
 refine ⟨?_, h.2.1.frozenAt j, ?_⟩
 ·rw [h.2.1.cellAt j (by omega), wcells, List.getElem?_map, gE hj]
  simp [List.getD, hj]
 ·simp only [List.getD, gE hj, Option.getD_some]
  exact h.2.2.2.1 _ (mM hj)
theorem BSet.set (h : BSet S q n W w) (j x : Nat) (hx : x < 2 ^ 64) : BSet S q n (W.set j x) (w.setCell ⟨q, j, none⟩ (.int .u64 (x : Int))) ∧ Tch (fun k => k = q) w (w.setCell ⟨q, j, none⟩ (.int .u64 (x : Int))) := by
 have ht : Tch (fun k => k = q) w (w.setCell ⟨q, j, none⟩ (.int .u64 (x : Int))) := Tch.setCell (S := fun k => k = q) (p := ⟨q, j, none⟩) (Tch.refl _ w) (fun _ => rfl) _
 refine ⟨⟨?_, ?_, by rw [List.length_set]; exact h.2.2.1, fun y hy => ?_, h.2.2.2.2⟩, ht⟩
 ·rw [List.length_set]; exact ht.blk h.1 h.ne
 ·have := (h.2.1.stored j (.int .u64 (x : Int))).1
  rw [List.length_set]
  simpa [wcells, List.map_set] using this
 ·rcases List.mem_or_eq_of_mem_set hy with h' | h'
  ·exact h.2.2.2.1 y h'
  ·rw [h']; exact hx
end
theorem bnew_any (n k : Nat) (w : World) (hn : n ≤ 65536) (hk : k = (n + 63) / 64) : Calls Tryz.prog 27 #[.int .i64 (n : Int)] w fun e w' => e = .returned (.pointer (some ⟨w.1.size + 1, 0, none⟩)) ∧ w' = (w.alloc (.cells (madeCells #[.int .u64 0] k) 34)).alloc (.cells #[.int .i64 (n : Int), .slice (some ⟨w.1.size, 0, none⟩) k k] 85) := by
 have d1 : decide ((65536 : Int) < (n : Int)) = false := by simp; omega
 have d2 : decide ((n : Int) < 0) = false := by simp
 have hmk := run_make_row' (P := Tryz.prog) 27 34 (.int .u64 0) 8 Tryz.underlying27 infoU rfl .i64 .i64 k (by omega) (by omega)
 have e : ((n : Int) + 64 - 1) / 64 = (k : Int) := by omega
 simp only [← e] at hmk
 clear e hk
 go_enter Tryz.func27, Tryz.ntmps27
 go_wp2
 go_ret
 exact ⟨rfl, rfl⟩
theorem blen_any (S q n : Nat) (W : List Nat) (w : World) (h : BSet S q n W w) : Calls Tryz.prog 55 #[.pointer (some ⟨S, 0, none⟩)] w fun e w' => e = .returned (.int .i64 (n : Int)) ∧ w = w' := by
 obtain ⟨⟨c0, c1⟩, _, hS⟩ := blk2 h.1
 clear h
 go_enter Tryz.func55, Tryz.ntmps55
 go_wp2
 go_ret
 exact ⟨rfl, rfl⟩
def bitOf (W : List Nat) (i : Nat) : Bool := (W.getD (i / 64) 0).testBit (i % 64)
theorem bhas_any (S q n : Nat) (W : List Nat) (i : Nat) (w : World) (h : BSet S q n W w) (hi : i < n) : Calls Tryz.prog 32 #[.pointer (some ⟨S, 0, none⟩), .int .i64 (i : Int)] w fun e w' => e = .returned (.bool (bitOf W i)) ∧ w = w' := by
 have HL := dh (blen_any S q n W w h)
 obtain ⟨⟨c0, c1⟩, _, hS⟩ := blk2 h.1
 have hk : i / 64 < W.length := by rw [h.2.2.1]; omega
 obtain ⟨c2, _, hb⟩ := h.at_ hk
 have hlW : W.length ≤ 1024 := by rw [h.2.2.1]; have := h.2.2.2.2; omega
 unfold bitOf
 generalize W.getD (i / 64) 0 = x at *
 have d1 : decide ((i : Int) < (n : Int)) = true := by simp; omega
 clear h
 go_enter Tryz.func32, Tryz.ntmps32
 go_wp2_with fail
 refine Calls.mono HL.out ?_
 rintro e w1 ⟨rfl, rfl⟩
 go_wp2
 go_ret
 exact ⟨ret_bool (has_bit hb), rfl⟩
def BPost (S q n : Nat) (W : List Nat) (b : Bool) (w : World) (en : Ending) (w' : World) : Prop := en = .returned (.bool b) ∧ BSet S q n W w' ∧ Tch (fun k => k = q) w w'
def putW (W : List Nat) (i : Nat) : List Nat := if bitOf W i = true then W else W.set (i / 64) (W.getD (i / 64) 0 ||| 2 ^ (i % 64))
theorem bput_any (S q n : Nat) (W : List Nat) (i : Nat) (w : World) (h : BSet S q n W w) (hi : i < n) : Calls Tryz.prog 30 #[.pointer (some ⟨S, 0, none⟩), .int .i64 (i : Int)] w (BPost S q n (putW W i) (!bitOf W i) w) := by
 have HL := dh (blen_any S q n W w h)
 have HH := dh (bhas_any S q n W i w h hi)
 have d1 : decide ((n : Int) ≤ (i : Int)) = false := by simp; omega
 have d2 : decide ((i : Int) < 0) = false := by simp
 cases hb : bitOf W i
 ·have hput : putW W i = W.set (i / 64) (W.getD (i / 64) 0 ||| 2 ^ (i % 64)) := by rw [putW, hb]; rfl
  have HP := dh hput
  have HB := dh hb
  obtain ⟨⟨c0, c1⟩, _, hS⟩ := blk2 h.1
  have hk : i / 64 < W.length := by rw [h.2.2.1]; omega
  obtain ⟨c2, f2, hbd⟩ := h.at_ hk
  have hj : i % 64 < 64 := Nat.mod_lt _ (by omega)
  have hset := h.set (i / 64) (W.getD (i / 64) 0 ||| 2 ^ (i % 64)) (Nat.or_lt_two_pow hbd (pow_lt64 hj))
  have hlW : W.length ≤ 1024 := by rw [h.2.2.1]; have := h.2.2.2.2; omega
  have hsh : Op.shift .shl .u64 1 .i64 ((i % 64 : Nat) : Int) = pure (.int .u64 ((2 ^ (i % 64) : Nat) : Int)) := by
   rw [shift_shl .u64 .i64 1 _ (by omega) (by show ((i % 64 : Nat) : Int) ≤ 64; omega), tN, Int.one_mul, wrap_pow hj]
  have hor := or_bit hbd (pow_lt64 hj)
  have hor2 := or_bit hbd (pow_lt64 hj)
  rw [← wrap_pow hj] at hor2
  have HO2 := dh hor2
  clear hor2
  have e1 : IntKind.i64.wrap ((i : Int) / 64) = ((i / 64 : Nat) : Int) := by rw [IntWalk.i64_in _ (by have := h.2.2.2.2; omega)]; omega
  have e2 : ((i : Int)).tmod 64 = ((i % 64 : Nat) : Int) := by rw [Int.tmod_eq_emod_of_nonneg (by omega)]; omega
  have hpl : 2 ^ (i % 64) < 2 ^ 64 := pow_lt64 hj
  generalize 2 ^ (i % 64) = p at *
  generalize W.getD (i / 64) 0 = x at *
  generalize hga : i / 64 = a at *
  generalize hgr : i % 64 = r at *
  have hq := h.lt.2
  have i0 : (0 : Int) ≤ (a : Int) := by omega
  have i1 : (a : Int) < (W.length : Int) := by omega
  clear hga hgr
  have HS := dh hset
  clear h hput hb hset
  have HSH := dh hsh
  have HO := dh hor
  have HE1 := dh e1
  have HE2 := dh e2
  clear hsh hor e1 e2
  go_enter Tryz.func30, Tryz.ntmps30
  go_wp2_with fail
  refine Calls.mono HL.out ?_
  rintro e w1 ⟨rfl, rfl⟩
  go_wp2_with fail
  refine Calls.mono HH.out ?_
  rw [HB.out]
  rintro e w1 ⟨rfl, rfl⟩
  go_wp2_with fail
  have hsh := HSH.out
  have hor := HO.out
  have e1 := HE1.out
  have e2 := HE2.out
  refine wp_region_T (S := fun w' => w'.cell? ⟨S, 1, none⟩ = some (.slice (some ⟨q, 0, none⟩) W.length W.length) ∧ w'.cell? ⟨q, a, none⟩ = some (.int .u64 (x : Int))) 13 (by kernel_rfl) ⟨c1, c2⟩ (fun hS => ?_)
  refine tkT 0 ?_
  refine tkT 1 ?_
  refine tkT 2 ?_
  refine tkT 3 ?_
  refine tkT 4 ?_
  refine tkT 5 ?_
  refine tkT 6 ?_
  refine tkT 7 ?_
  refine tkT 8 ?_
  refine tkT 9 ?_
  refine tkT 10 ?_
  refine tkT 11 ?_
  refine tkT 12 ?_
  refine wpAnyT_endD rfl (by kernel_rfl) (by kernel_rfl) (fun K hK => ?_)
  go_simp
  refine hK.out _ _ ?_
  clear hK
  clear hsh hor e1 e2
  go_wp2
  go_ret
  rw [HO2.out]
  exact ⟨rfl, by rw [HP.out]; exact HS.out.1.below (Below.drew bR), Tch.drewN HS.out.2 1⟩
 ·have hput : putW W i = W := by rw [putW, hb]; rfl
  have HP := dh hput
  have HB := dh hb
  have HH' := dh h
  clear hput hb h
  go_enter Tryz.func30, Tryz.ntmps30
  go_wp2_with fail
  refine Calls.mono HL.out ?_
  rintro e w1 ⟨rfl, rfl⟩
  go_wp2_with fail
  refine Calls.mono HH.out ?_
  rw [HB.out]
  rintro e w1 ⟨rfl, rfl⟩
  go_wp2
  go_ret
  exact ⟨rfl, by rw [HP.out]; exact HH'.out, Tch.refl _ _⟩
end Go.Proofs.YtiebpncpdbnelaaGreatDoor
namespace Go.Proofs.YtiebpncpdbnelaaGreatDoor
open Go.RowKit
theorem own_seti {w : World} {base q ne t : Nat} {D : List Int} {d : Int} (h : w.ownsRow base 3 1 (.slice (some ⟨q, 0, none⟩) ne ne) ne (icells D)) :
  (w.setCell ⟨q, t, none⟩ (.int .i64 d)).ownsRow base 3 1 (.slice (some ⟨q, 0, none⟩) ne ne) ne (icells (D.set t d)) := by
 have := (h.stored t (.int .i64 d)).1
 rw [icells, List.map_set]; exact this
theorem own_geti {w : World} {base q ne t : Nat} {D : List Int} (h : w.ownsRow base 3 1 (.slice (some ⟨q, 0, none⟩) ne ne) ne (icells D)) (ht : t < ne) :
  w.cell? ⟨q, t, none⟩ = some (.int .i64 (D.getD t 0)) ∧ w.frozen? ⟨q, t, none⟩ = false ∧ q < w.1.size ∧ D.length = ne := by
 have hl : D.length = ne := by have := h.1; simpa [icells] using this
 refine ⟨?_, h.frozenAt t, (h.lt q rfl).2, hl⟩
 rw [h.cellAt t (by omega)]
 simp [icells, List.getD, hl, ht]
theorem tch_cell {w : World} (b o : Nat) (v : Value) : Tch (fun k => k = b) w (w.setCell ⟨b, o, none⟩ v) := Tch.setCell (S := fun k => k = b) (p := ⟨b, o, none⟩) (Tch.refl _ w) (fun _ => rfl) v
section
variable {wR w w' w1 w2 : World} {qf qd Sd ne p : Nat} {v : Value} {s : List Int × List Int}
end
end Go.Proofs.YtiebpncpdbnelaaGreatDoor
