/- The walks of layer 30 (auto): along. -/
import Derived.Test.YtiebpncpdbnelaaDoorZbg
set_option maxHeartbeats 16000000
set_option maxRecDepth 100000
namespace Go.Proofs.YtiebpncpdbnelaaDoor
open Go.RowKit
theorem three_newA (w : World) (x y z : Obj) : Below w.1.size w (((w.alloc x).alloc y).alloc z) ∧ (((w.alloc x).alloc y).alloc z).1[w.1.size]? = some x ∧ (((w.alloc x).alloc y).alloc z).1[w.1.size + 1]? = some y ∧ (((w.alloc x).alloc y).alloc z).1[w.1.size + 2]? = some z ∧ (((w.alloc x).alloc y).alloc z).1.size = w.1.size + 3 := by
 obtain ⟨h1, h2, h3, h4⟩ := two_new w x y
 refine ⟨h1.alloc (by omega) _, ?_, ?_, ?_, by simp⟩
 ·rw [Below.heap_alloc _ _ _ (by omega)]; exact h2
 ·rw [Below.heap_alloc _ _ _ (by omega)]; exact h3
 ·have := heap_alloc_new ((w.alloc x).alloc y) z
  rwa [h4] at this
def fstK (a : Aut) (u : Nat) (l : List Int) : List Int := l.filter (fun t => rdsB (a.at t.toNat) u)
theorem fstK_snoc (a : Aut) (u : Nat) {l : List Int} {i : Nat} (hi : i < l.length) : fstK a u (l.take (i + 1)) = fstK a u (l.take i) ++ (if rdsB (a.at l[i].toNat) u = true then [l[i]] else []) := by
 unfold fstK
 rw [take_snoc l i hi, List.filter_append]
 congr 1
 rw [List.filter_cons, List.filter_nil]
def rowA (a : Aut) (q u v : Nat) (d : Int) (l : List Int) : List Nd := (l.filter (fun t => rdsB (a.at q) u && rdsB (a.at t.toNat) v)).map (fun t => ⟨d + t, 0⟩)
theorem rowA_snoc (a : Aut) (q u v : Nat) (d : Int) {l : List Int} {i : Nat} (hi : i < l.length) : rowA a q u v d (l.take (i + 1)) = rowA a q u v d (l.take i) ++ (if (rdsB (a.at q) u && rdsB (a.at l[i].toNat) v) = true then [⟨d + l[i], 0⟩] else []) := by
 unfold rowA
 rw [take_snoc l i hi, List.filter_append, List.map_append]
 congr 1
 rw [List.filter_cons, List.filter_nil]
 split <;> rfl
theorem rowA_le (a : Aut) (q u v : Nat) (d : Int) (l : List Int) : (rowA a q u v d l).length ≤ l.length := by
 unfold rowA
 rw [List.length_map]; exact List.length_filter_le _ _
def alongI (a : Aut) (W : List Nat) : List Int := fstK a (W.getD 0 0) a.init
def alongN (a : Aut) (M : Nat) : List Nat := (List.range M).map (fun m => (a.at (m % a.nodes.length)).inn)
def alongP (a : Aut) (W : List Nat) (lp M : Nat) : List (List Nd) := (List.range M).map (fun m => alongR a W lp (m / a.nodes.length) (m % a.nodes.length))
theorem alongP_snoc (a : Aut) (W : List Nat) (lp : Nat) {k q : Nat} (hq : q < a.nodes.length) : alongP a W lp (k * a.nodes.length + (q + 1)) = alongP a W lp (k * a.nodes.length + q) ++ [alongR a W lp k q] := by
 unfold alongP
 rw [← Nat.add_assoc, List.range_succ, List.map_append, List.map_cons, List.map_nil, (idx_div hq).1, (idx_div hq).2]
theorem alongN_snoc (a : Aut) {k q : Nat} (hq : q < a.nodes.length) : alongN a (k * a.nodes.length + (q + 1)) = alongN a (k * a.nodes.length + q) ++ [(a.at q).inn] := by
 unfold alongN
 rw [← Nat.add_assoc, List.range_succ, List.map_append, List.map_cons, List.map_nil, (idx_div hq).2]
theorem alongP_len (a : Aut) (W : List Nat) (lp M : Nat) : ((alongP a W lp M).map ncells).length = M := by unfold alongP; simp
theorem alongN_len (a : Aut) (M : Nat) : (alongN a M).length = M := by unfold alongN; simp
theorem PlM.labelled {base pb all M : Nat} {vi ve vn : Value} {I : List Int} {E : List (List Nd)} {vs : List Value} {ins : List Nat} {w : World} (h : PlM base pb vi I ve E vs (.slice none 0 0) [] vn ins all w) (hbs : base ≤ w.1.size) (hM : M ≤ maxLen) :
  PlM base pb vi I ve E vs (.slice (some ⟨w.1.size, 0, none⟩) M M) (List.replicate M 0) vn ins all ((w.alloc (.cells (madeCells #[.int .u64 0] M) 41)).setCell ⟨pb, 2, none⟩ (.slice (some ⟨w.1.size, 0, none⟩) M M)) := by
 have h1 := h.below ((Below.refl w.1.size w).alloc lR (.cells (madeCells #[.int .u64 0] M) 41))
 obtain ⟨f1, f2, f3, f4⟩ := h1.far 2 (.slice (some ⟨w.1.size, 0, none⟩) M M)
 have hm := own_made (w := w) (base := base) (e := 41) (v := .int .u64 0) hbs hM
 refine ⟨?_, f1, f2, ?_, f4, fun g hg e => ?_, h.bb⟩
 ·rw [heap_setCell_same _ pb 2 _ _ _ h1.blk]; rfl
 ·rw [List.length_replicate]
  have := own_tch hm (tch_cell pb 2 (.slice (some ⟨w.1.size, 0, none⟩) M M)) (fun g hg e => by simp [Value.ownBlock] at hg; have := h.lt; omega)
  simpa [ucellsN] using this
 ·simp [Value.ownBlock] at hg
  have := (h.ins.lt g e).2
  omega
theorem along_any (a : Aut) (s : Nat) (Ai : Option Addr) (ni ci : Nat) (An : Option Addr) (nn cn : Nat) (A1 A2 : Option Addr) (n1 c1 n2 c2 : Nat) (st lo : List Int) (W : List Nat) (w : World) (B : Nat) (h : AutRd w B a Ai ni ci An nn cn) (hwd : WRd w B A1 A2 n1 c1 n2 c2 st lo) (hB : B ≤ w.1.size) (hA : a.Ok) (hs : s ≤ 16)
  (hnd : ∀ x ∈ a.nodes, x.need < 2 ^ 64 ∧ x.ban < 2 ^ 64) (hil : a.init.length ≤ 100000000) (hnl : a.nodes.length ≤ 100000) (htl : ∀ x ∈ a.nodes, x.to.length ≤ 100000000) (hl : n1 + n2 ≤ 60000) (h2 : 0 < n2) (hWl : n1 + n2 = W.length) (hat : ∀ k, k < W.length → atW st lo (k : Int) = ((W.getD k 0 : Nat) : Int)) (h64 : ∀ k, W.getD k 0 < 2 ^ 64) :
  Calls Tryd.prog 55 #[.agg #[.int .i64 (s : Int), .slice Ai ni ci, .slice An nn cn], .agg #[.slice A1 n1 c1, .slice A2 n2 c2]] w (PlayPost (alongI a W) (alongE a W n1) (List.replicate (W.length * a.nodes.length) 0) (alongN a (W.length * a.nodes.length)) (allB s) w) := by
 obtain ⟨hb0, x0, v0, y0, z0⟩ := three_newA w (.cells #[.int .i64 (s : Int), .slice Ai ni ci, .slice An nn cn] 25) (.cells #[.slice A1 n1 c1, .slice A2 n2 c2] 29) (.cells #[.slice none 0 0, .slice none 0 0, .slice none 0 0, .slice none 0 0, .int .u64 0] 74)
 obtain ⟨W0, hW0⟩ := xQ (((w.alloc (.cells #[.int .i64 (s : Int), .slice Ai ni ci, .slice An nn cn] 25)).alloc (.cells #[.slice A1 n1 c1, .slice A2 n2 c2] 29)).alloc (.cells #[.slice none 0 0, .slice none 0 0, .slice none 0 0, .slice none 0 0, .int .u64 0] 74))
 rw [hW0] at hb0 x0 v0 y0 z0
 have HR := dh (h.below hb0 hB)
 have HWR := dh (hwd.below hb0 hB)
 have hni := h.eni
 have hnn := h.enn
 have hci := h.init.cap
 have hmi := h.init.max
 obtain ⟨xsN, hsN, -⟩ := h.nodes
 have hcn := hsN.cap
 have hmn := hsN.max
 unfold maxLen at hmi hmn
 have HW0 := dh hW0
 have HX0 := dh x0
 have HV0 := dh v0
 have HY0 := dh y0
 have HZ0 := dh z0
 have HB0 := dh hb0
 have HNI := dh hni
 have HNN := dh hnn
 have HA := dh hA
 have HND := dh hnd
 have HTL := dh htl
 have HAT := dh hat
 have H64 := dh h64
 have HWL := dh hWl
 have hnil : ni ≤ 100000000 := by omega
 have hnnl : nn ≤ 100000 := by omega
 have HEV := dh (every_any (.slice Ai ni ci) (.slice An nn cn) s W0 hs)
 have hBs : B ≤ W0.1.size := by omega
 have hab : w.1.size < W0.1.size := by omega
 have hwb : w.1.size + 1 < W0.1.size := by omega
 obtain ⟨k0, k1, k2⟩ := box3A x0
 clear h hwd hsN hW0 x0 v0 y0 z0 hb0 hA hnd htl hil hni hnn hnl hat h64 hWl
 go_enter Tryd.func55, Tryd.ntmps55
 go_upto_region 1 with fail
 rw [HW0.out]
 go_wp2_with fail
 refine HEV.out.mono ?_
 rintro e w1 ⟨rfl, hb1⟩
 have HB1 := dh hb1
 obtain ⟨wP, hwP⟩ := xQ (w1.alloc (.cells #[.slice none 0 0, .slice none 0 0, .slice none 0 0, .slice none 0 0, .int .u64 ((allB s : Nat) : Int)] 74))
 have HWP := dh hwP
 clear hb1 k0 k1 k2
 go_upto_region 2 with fail
 have hwPb : Below w1.1.size w1 wP := by rw [← hwP]; exact bR.alloc lR _
 have HBP := dh (HB1.out.trans (hwPb.mono HB1.out.size))
 have HPB : Hid (wP.1[w1.1.size]? = some (.cells #[.slice none 0 0, .slice none 0 0, .slice none 0 0, .slice none 0 0, .int .u64 ((allB s : Nat) : Int)] 74 (0, 0))) := dh (by rw [← hwP]; exact heap_alloc_new w1 _)
 have HP0 : Hid (PlM W0.1.size w1.1.size (.slice none 0 0) [] (.slice none 0 0) [] [] (.slice none 0 0) [] (.slice none 0 0) [] (allB s) wP) := dh ⟨HPB.out, World.ownsRow_nil _ _ _ _, Own2.nil _ _ _ _ _, World.ownsRow_nil _ _ _ _, World.ownsRow_nil _ _ _ _, fun g hg => by simp [Value.ownBlock] at hg, HB1.out.size⟩
 have HSZ := dh HB1.out.size
 obtain ⟨pb, hpb⟩ := xQ w1.1.size
 rw [hpb] at HP0 HSZ ⊢
 clear hwP hwPb hpb HWP HB1 HPB HEV
 have HCEL : Hid (∀ w', Below W0.1.size W0 w' → w'.cell? ⟨w.1.size, 1, none⟩ = some (.slice Ai ni ci) ∧ w'.cell? ⟨w.1.size, 2, none⟩ = some (.slice An nn cn) ∧ w'.cell? ⟨w.1.size + 1, 0, none⟩ = some (.slice A1 n1 c1) ∧ w'.cell? ⟨w.1.size + 1, 1, none⟩ = some (.slice A2 n2 c2)) := dh (fun w' hb =>
  ⟨(hb.cell (p := ⟨w.1.size, 1, none⟩) hab).trans (cR HX0.out), (hb.cell (p := ⟨w.1.size, 2, none⟩) hab).trans (cR HX0.out),
   (hb.cell (p := ⟨w.1.size + 1, 0, none⟩) hwb).trans (cR HV0.out), (hb.cell (p := ⟨w.1.size + 1, 1, none⟩) hwb).trans (cR HV0.out)⟩)
 have HCAN : Hid (∀ (w' : World) (q k : Nat), Below W0.1.size W0 w' → q < nn → k < W.length → Calls Tryd.prog 81 #[.int .i64 (q : Int), .int .i64 (k : Int), .pointer (some ⟨w.1.size + 1, 0, none⟩), .pointer (some ⟨w.1.size, 0, none⟩)] w' (Tru w' (rdsB (a.at q) (W.getD k 0)))) := dh (fun w' q k hb hq hk =>
  reads_any a Ai ni ci An nn cn A1 A2 n1 c1 n2 c2 st lo W w' B w.1.size (w.1.size + 1) q k (HR.out.below hb hBs) (HWR.out.below hb hBs) (by have := hb.size; omega) (HCEL.out w' hb).2.1 (HCEL.out w' hb).2.2.1 (HCEL.out w' hb).2.2.2 hq hl (HAT.out k hk) (H64.out k) (by have := HWL.out; omega) HND.out)
 have HLEN : Hid (∀ w' : World, Calls Tryd.prog 80 #[.agg #[.slice A1 n1 c1, .slice A2 n2 c2]] w' (Num w' ((n1 : Int) + (n2 : Int)))) := dh (fun w' => by rw [← Int.natCast_add]; exact pLen_any A1 A2 n1 c1 n2 c2 w' hl)
 obtain ⟨q1, q2, q3, q4⟩ := HCEL.out wP HBP.out
 refine wp_region_held_drew (S := fun w' => w'.cell? ⟨w.1.size, 2, none⟩ = some (.slice An nn cn) ∧ w'.cell? ⟨w.1.size + 1, 0, none⟩ = some (.slice A1 n1 c1) ∧ w'.cell? ⟨w.1.size + 1, 1, none⟩ = some (.slice A2 n2 c2)) (by kernel_rfl) ⟨q2, q3, q4⟩ (fun hS => ?_)
 refine tkH 0 ?_
 refine tkH 2 ?_
 refine tkH 3 ?_
 refine tkH 4 ?_
 refine oneH 1 (fun K hK => ?_)
 go_simp
 refine (HLEN.out _).mono ?_
 rintro e w2 ⟨rfl, hb2⟩
 have HB2 := dh (HBP.out.trans ((Below.trans (bel_drew (Below.refl wP.1.size wP)) hb2).mono HBP.out.size))
 have HP2 := dh (HP0.out.below (Below.trans (bel_drew (Below.refl wP.1.size wP)) hb2))
 refine hK.out _ _ ⟨(HCEL.out w2 HB2.out).2.1, (HCEL.out w2 HB2.out).2.2.1, (HCEL.out w2 HB2.out).2.2.2⟩ (fun hS => ?_)
 clear hK
 refine tkH 5 ?_
 refine tkH 6 ?_
 refine wpAnyH_done (by kernel_rfl) ?_ _
 clear hS hb2 q1 q2 q3 q4 HP0 HBP
 obtain ⟨q1, q2, q3, q4⟩ := HCEL.out w2 HB2.out
 have hn1L : n1 < W.length := by have := HWL.out; omega
 have HU0 := dh (H64.out 0)
 go_wp2_with fail
 go_loopw [30] (fun v wr => ∃ (i : Nat) (vi : Value), i ≤ ni ∧ v = .int .i64 i ∧ Hid (PlM W0.1.size pb vi (fstK a (W.getD 0 0) (a.init.take i)) (.slice none 0 0) [] [] (.slice none 0 0) [] (.slice none 0 0) [] (allB s) wr) ∧ Hid (Below W0.1.size W0 wr)) (fun v _ => ni - (intOf v).toNat)
 case atStart => exact ⟨0, _, by omega, rfl, HP2, HB2⟩
 case round =>
  clear HP2 HB2 q1 q2 q3 q4
  obtain ⟨i, vi, hi, rfl, HP, HB⟩ := hrel
  have hzr := HB.out.size
  by_cases hlt : i < ni
  ·have hlt' : (i : Int) < (ni : Int) := by omega
   have hi0 : (0 : Int) ≤ (i : Int) := by omega
   have hil : i < a.init.length := by rw [← HNI.out]; exact hlt
   obtain ⟨b, o, rfl, hbl, c0⟩ := rd_intS (HR.out.init.below HB.out hBs) hil
   obtain ⟨q, hqe, hq⟩ := HA.out.first (mM hil)
   have hq' : q < nn := by rw [HNN.out]; exact hq
   have HSN := dh (fstK_snoc a (W.getD 0 0) hil)
   rw [hqe] at c0 HSN
   have HC : Hid (Calls Tryd.prog 81 #[.int .i64 (q : Int), .int .i64 0, .pointer (some ⟨w.1.size + 1, 0, none⟩), .pointer (some ⟨w.1.size, 0, none⟩)] wr (Tru wr (rdsB (a.at q) (W.getD 0 0)))) := dh (HCAN.out wr q 0 HB.out hq' (by omega))
   have wi : IntKind.i64.wrap ((i : Int) + 1) = i + 1 := by rw [wI]; omega
   clear hqe hq
   go_wp2_with fail
   refine HC.out.mono ?_
   cases hc : rdsB (a.at q) (W.getD 0 0)
   ·rintro e w2 ⟨rfl, hb2⟩
    have HPx : Hid (fstK a (W.getD 0 0) (a.init.take (i + 1)) = fstK a (W.getD 0 0) (a.init.take i)) := dh (by rw [HSN.out, tN, hc]; simp)
    have HP2 := dh (HP.out.below hb2)
    have HB2 := dh (HB.out.trans (hb2.mono hzr))
    clear hb2 hc
    go_wp2_with fail
    go_roundw
    case rel => exact ⟨i + 1, vi, by omega, congrArg (Value.int .i64) (by omega), dh (by rw [HPx.out]; exact HP2.out), HB2⟩
    case measure => simp [intOf]; omega
   ·rintro e w2 ⟨rfl, hb2⟩
    have HPx : Hid (fstK a (W.getD 0 0) (a.init.take (i + 1)) = fstK a (W.getD 0 0) (a.init.take i) ++ [(q : Int)]) := dh (by rw [HSN.out, tN, hc]; simp)
    have HP2 := dh (HP.out.below hb2)
    have HB2 := dh (HB.out.trans (hb2.mono hzr))
    have hle : (fstK a (W.getD 0 0) (a.init.take i)).length ≤ i := Nat.le_trans (List.length_filter_le _ _) (by rw [List.length_take]; omega)
    have hz2 := HB2.out.size
    generalize fstK a (W.getD 0 0) (a.init.take i) = I at *
    obtain ⟨Av, cv, rfl, -⟩ := own_sl HP2.out.init
    obtain ⟨p0, p1, p2, p3, p4⟩ := HP2.out.cells
    have hnw := dh (heap_alloc_new w2 (.cells #[.int .i64 (q : Int)] 3))
    have HO := dh HP2.out.init
    clear hb2 hc c0 p1 p2 p3 p4
    go_wp2_with (at_builtin; refine wpList_push rfl (.tmp 39) (.tmp 41) 22 rfl W0.1.size 3 1 8 sliceInt _ _ _ (HO.out.alloc _) rfl w2.1.size #[.int .i64 (q : Int)] rfl hnw.out rfl (by simp [Value.oneCell']) (by omega) (by omega) (by simp; omega) ?_; intro u' wA hown3 ht3 hat3 hne3; obtain ⟨g', cap', rfl, _⟩ := own_form hown3 (by omega); have HRW := dh (HP2.out.app_init hown3 ht3 hat3); have HBA := dh (bel_app HB2.out HO.out ht3 HSZ.out 0 (.slice (some ⟨g', 0, none⟩) (I.length + 1) cap')); have r1 := HRW.out.1; have r2 := HRW.out.2.1; have r3 := HRW.out.2.2.1)
    go_roundw
    case rel => exact ⟨i + 1, _, by omega, congrArg (Value.int .i64) (by omega), dh (by rw [HPx.out]; exact HRW.out.2.2.2), HBA⟩
    case measure => simp [intOf]; omega
  ·have hin : i = ni := by omega
   subst hin
   have HPI : Hid (PlM W0.1.size pb vi (alongI a W) (.slice none 0 0) [] [] (.slice none 0 0) [] (.slice none 0 0) [] (allB s) wr) := dh (by have := HP.out; rw [HNI.out, List.take_length] at this; exact this)
   clear HP
   obtain ⟨wq, rfl⟩ := xR wr
   go_wp2_with fail
   go_loopw [47] (fun v wr => ∃ (k : Nat) (ve : Value) (vs : List Value) (vn : Value), k ≤ n1 + n2 ∧ v = .int .i64 k ∧ Hid (PlM W0.1.size pb vi (alongI a W) ve (alongP a W n1 (k * nn)) vs (.slice none 0 0) [] vn (alongN a (k * nn)) (allB s) wr) ∧ Hid (Below W0.1.size W0 wr)) (fun v _ => n1 + n2 - (intOf v).toNat)
   case atStart => exact ⟨0, _, _, _, by omega, rfl, dh (by rw [Nat.zero_mul]; exact HPI.out), HB⟩
   case round =>
    clear HPI HB hzr
    obtain ⟨k, ve, vs, vn, hk, rfl, HP, HB⟩ := hrel
    have hzr := HB.out.size
    by_cases hlt : k < n1 + n2
    ·have hk1 : (k : Int) < (n1 : Int) + (n2 : Int) := by omega
     have hk1' : (k : Int) < ((n1 + n2 : Nat) : Int) := by omega
     have hk0 : (0 : Int) ≤ (k : Int) := by omega
     have wk : IntKind.i64.wrap ((k : Int) + 1) = k + 1 := by rw [wI]; omega
     obtain ⟨nxt, hnx⟩ := xR (nx n1 W.length k)
     have hnxl : nxt < W.length := by rw [hnx]; exact nx_lt hn1L
     have hnxe : nxt = if k + 1 = n1 + n2 then n1 else k + 1 := by
      rw [hnx, nx, ← HWL.out]
      by_cases e : k + 1 = n1 + n2
      ·rw [if_neg (by omega), if_pos e]
      ·rw [if_pos (by omega), if_neg e]
     have HNXT := dh hnx
     have HNXE := dh hnxe
     clear hnx hnxe
     obtain ⟨q1, q2, q3, q4⟩ := HCEL.out wr HB.out
     go_upto_if 54 with (fail)
     go_cut [12] (fun v wF => v = .int .i64 (nxt : Int) ∧ wF = wr)
     case first =>
      by_cases e : k + 1 = n1 + n2
      ·have d : ((k : Int) + 1 == (n1 : Int) + (n2 : Int)) = true := by simp; omega
       have he : nxt = n1 := by rw [HNXE.out, if_pos e]
       have HE := dh he
       clear e he
       go_wp2_with fail
       go_meet
       case rel => exact ⟨by rw [HE.out], rfl⟩
      ·have d : ((k : Int) + 1 == (n1 : Int) + (n2 : Int)) = false := beq_eq_false_iff_ne.2 (by omega)
       have he : nxt = k + 1 := by rw [HNXE.out, if_neg e]
       have HE := dh he
       clear e he
       go_wp2_with fail
       go_meet
       case rel => exact ⟨by rw [HE.out]; go_num, rfl⟩
     case rest =>
      obtain ⟨rfl, hwc⟩ := hcut
      subst hwc
      obtain ⟨d, hd⟩ : ∃ d : Nat, nxt * nn = d := ⟨_, rfl⟩
      have hdi : (nxt : Int) * (nn : Int) = (d : Int) := by rw [← hd]; simp
      have hdl : d ≤ 6000000000 := by
       rw [← hd]
       exact Nat.le_trans (Nat.mul_le_mul (show nxt ≤ 60000 by have := HWL.out; omega) hnnl) (by decide)
      have hkl : k * nn ≤ 6000000000 := Nat.le_trans (Nat.mul_le_mul (show k ≤ 60000 by omega) hnnl) (by decide)
      have wd : IntKind.i64.wrap ((nxt : Int) * (nn : Int)) = (d : Int) := by rw [hdi, wI]; omega
      have HDI := dh hdi
      have hkW : k < W.length := by have := HWL.out; omega
      clear hd hdi
      go_wp2_with fail
      go_loopw [61] (fun v wr => ∃ (q : Nat) (ve : Value) (vs : List Value) (vn : Value), q ≤ nn ∧ v = .int .i64 q ∧ Hid (PlM W0.1.size pb vi (alongI a W) ve (alongP a W n1 (k * nn + q)) vs (.slice none 0 0) [] vn (alongN a (k * nn + q)) (allB s) wr) ∧ Hid (Below W0.1.size W0 wr)) (fun v _ => nn - (intOf v).toNat)
      case atStart => exact ⟨0, _, _, _, by omega, rfl, HP, HB⟩
      case round =>
       clear HP HB hzr q1 q2 q3 q4
       obtain ⟨q, ve, vs, vn, hq, rfl, HP, HB⟩ := hrel
       have hzr := HB.out.size
       by_cases hlq : q < nn
       ·have hlt' : (q : Int) < (nn : Int) := by omega
        have hq0 : (0 : Int) ≤ (q : Int) := by omega
        obtain ⟨b, o, x, At, ct, rfl, hbl, hx, c0, c1', c2', c3, hst⟩ := rd_aut (HR.out.below HB.out hBs) hlq
        have hxe : a.at q = x := by unfold Aut.at; rw [gD, hx]; rfl
        have hxm := List.mem_of_getElem? hx
        have htl := HTL.out x hxm
        have hmt := hst.max
        have hct := hst.cap
        unfold maxLen at hmt
        have wi : IntKind.i64.wrap ((q : Int) + 1) = q + 1 := by rw [wI]; omega
        have HXE := dh hxe
        have hbx : Below wr.1.size wr (wr.alloc (.cells #[.int .u64 (x.need : Int), .int .u64 (x.ban : Int), .int .u64 (x.inn : Int), .slice At x.to.length ct] 43)) := bR.alloc lR _
        have hxx := heap_alloc_new wr (.cells #[.int .u64 (x.need : Int), .int .u64 (x.ban : Int), .int .u64 (x.inn : Int), .slice At x.to.length ct] 43)
        have hzx : (wr.alloc (.cells #[.int .u64 (x.need : Int), .int .u64 (x.ban : Int), .int .u64 (x.inn : Int), .slice At x.to.length ct] 43)).1.size = wr.1.size + 1 := by simp
        obtain ⟨wx, hwx⟩ := xQ (wr.alloc (.cells #[.int .u64 (x.need : Int), .int .u64 (x.ban : Int), .int .u64 (x.inn : Int), .slice At x.to.length ct] 43))
        rw [hwx] at hbx hxx hzx
        have HXX := dh hxx
        have HZX := dh hzx
        have HST := dh (hst.below hbx (by omega))
        have HPX := dh (HP.out.below hbx)
        have HBX := dh (HB.out.trans (hbx.mono hzr))
        have hne : wr.1.size ≠ pb := by have := HP.out.lt; omega
        have HM := dh hxm
        clear hst hx hxe hbx hxx hzx hxm
        go_upto_region 19 with fail
        obtain ⟨xb, hxb⟩ := xQ wr.1.size
        rw [hxb] at HXX HZX hne ⊢
        clear hwx HP HB hxb hzr c0 c1' c2' c3 wr
        obtain ⟨e0, e1, e2, e3⟩ := box4A HXX.out
        have hzX := HBX.out.size
        go_wp2_with fail
        go_loopw [15, 69] (fun u v wr => ∃ m : Nat, m ≤ x.to.length ∧ v = .int .i64 m ∧ Hid (wr.ownsRow wx.1.size 65 2 u (rowA a q (W.getD k 0) (W.getD nxt 0) (d : Int) (x.to.take m)).length (ncells (rowA a q (W.getD k 0) (W.getD nxt 0) (d : Int) (x.to.take m)))) ∧ Hid (Below wx.1.size wx wr)) (fun _ v _ => x.to.length - (intOf v).toNat)
        case atStart => exact ⟨0, by omega, rfl, dh (World.ownsRow_nil _ _ _ _), dh bR⟩
        case round =>
         clear e0 e1 e2 e3
         obtain ⟨m, hm, rfl, HO, HBr⟩ := hrel
         have hzr := HBr.out.size
         by_cases hmt2 : m < x.to.length
         ·have hm1 : (m : Int) < (x.to.length : Int) := by omega
          have hm0 : (0 : Int) ≤ (m : Int) := by omega
          obtain ⟨b2, o2, rfl, hbl2, d0⟩ := rd_intS (HST.out.below HBr.out (by omega)) hmt2
          obtain ⟨j, hje, hj⟩ := isNd_nat (HA.out.2 x HM.out _ (mM hmt2))
          have hj' : j < nn := by rw [HNN.out]; exact hj
          have HSN := dh (rowA_snoc a q (W.getD k 0) (W.getD nxt 0) (d : Int) hmt2)
          rw [hje] at d0 HSN
          have HBq := dh (HBX.out.trans (HBr.out.mono hzX))
          have HC := dh (HCAN.out wr q k HBq.out hlq hkW)
          have wm : IntKind.i64.wrap ((m : Int) + 1) = m + 1 := by rw [wI]; omega
          have wj : IntKind.i64.wrap ((d : Int) + (j : Int)) = (d : Int) + (j : Int) := by rw [wI]; omega
          clear hje hj
          go_wp2_with fail
          refine HC.out.mono ?_
          cases hc : rdsB (a.at q) (W.getD k 0)
          ·rintro e w2 ⟨rfl, hb2⟩
           have HPx : Hid (rowA a q (W.getD k 0) (W.getD nxt 0) (d : Int) (x.to.take (m + 1)) = rowA a q (W.getD k 0) (W.getD nxt 0) (d : Int) (x.to.take m)) := dh (by rw [HSN.out, hc]; simp)
           have HO2 := dh (own_below HO.out hb2)
           have HB2 := dh (HBr.out.trans (hb2.mono hzr))
           clear hb2 hc
           go_wp2_with fail
           go_roundw
           case rel => exact ⟨m + 1, by omega, congrArg (Value.int .i64) (by omega), dh (by rw [HPx.out]; exact HO2.out), HB2⟩
           case measure => simp [intOf]; omega
          ·rintro e w2 ⟨rfl, hb2⟩
           have hz2 := hb2.size
           have HO2 := dh (own_below HO.out hb2)
           have HB2 := dh (HBr.out.trans (hb2.mono hzr))
           have HC2 := dh (HCAN.out w2 j nxt (HBq.out.trans (hb2.mono HBq.out.size)) hj' hnxl)
           have HCQ := dh hc
           clear hb2 hc HO HC d0
           go_wp2_with fail
           refine HC2.out.mono ?_
           cases hc : rdsB (a.at j) (W.getD nxt 0)
           ·rintro e w3 ⟨rfl, hb3⟩
            have HPx : Hid (rowA a q (W.getD k 0) (W.getD nxt 0) (d : Int) (x.to.take (m + 1)) = rowA a q (W.getD k 0) (W.getD nxt 0) (d : Int) (x.to.take m)) := dh (by rw [HSN.out, HCQ.out, tN, hc]; simp)
            have HO3 := dh (own_below HO2.out hb3)
            have HB3 := dh (HB2.out.trans (hb3.mono HB2.out.size))
            clear hb3 hc
            go_wp2_with fail
            go_roundw
            case rel => exact ⟨m + 1, by omega, congrArg (Value.int .i64) (by omega), dh (by rw [HPx.out]; exact HO3.out), HB3⟩
            case measure => simp [intOf]; omega
           ·rintro e w3 ⟨rfl, hb3⟩
            have HPx : Hid (rowA a q (W.getD k 0) (W.getD nxt 0) (d : Int) (x.to.take (m + 1)) = rowA a q (W.getD k 0) (W.getD nxt 0) (d : Int) (x.to.take m) ++ [⟨(d : Int) + (j : Int), 0⟩]) := dh (by rw [HSN.out, HCQ.out, tN, hc]; simp)
            have HO3 := dh (own_below HO2.out hb3)
            have HB3 := dh (HB2.out.trans (hb3.mono HB2.out.size))
            have hle : (rowA a q (W.getD k 0) (W.getD nxt 0) (d : Int) (x.to.take m)).length ≤ m := Nat.le_trans (rowA_le a q _ _ _ _) (by rw [List.length_take]; omega)
            have hz3 := HB3.out.size
            clear hb3 hc HO2 HSN
            generalize rowA a q (W.getD k 0) (W.getD nxt 0) (d : Int) (x.to.take m) = Y at *
            obtain ⟨Au, cu, rfl, -⟩ := own_sl HO3.out
            have hnw := dh (heap_alloc_new w3 (.cells #[.int .i64 ((d : Int) + (j : Int)), .int .i64 0] 65))
            go_wp2_with (at_builtin; refine wpList_push rfl (.tmp 83) (.tmp 90) 63 rfl wx.1.size 65 2 16 sliceEd _ _ _ (HO3.out.alloc _) rfl w3.1.size #[.int .i64 ((d : Int) + (j : Int)), .int .i64 0] rfl hnw.out rfl (by simp [Value.oneCell']) (by omega) (by omega) (by simp; omega) ?_; intro u' wA hown3 ht3 hat3 hne3; obtain ⟨g', cap', rfl, _⟩ := own_form hown3 (by omega); have HOA := dh hown3; have HBA := dh (HB3.out.trans ((Tch.trans ((Tch.refl _ w3).alloc _) ht3 (fun _ _ h => h)).below hz3 (fun k hk e => by have := (HO3.out.lt k e).1; omega))))
            go_roundw
            case rel => exact ⟨m + 1, by omega, congrArg (Value.int .i64) (by omega), dh (by rw [HPx.out, lA, ncells_append]; simpa [ncells] using HOA.out), HBA⟩
            case measure => simp [intOf]; omega
         ·have hme : m = x.to.length := by omega
          subst hme
          have HU : Hid (wr.ownsRow wx.1.size 65 2 u15 (alongR a W n1 k q).length (ncells (alongR a W n1 k q))) := dh (by
           have hre : rowA a q (W.getD k 0) (W.getD nxt 0) (d : Int) x.to = alongR a W n1 k q := by rw [← HDI.out, ← HXE.out, HNN.out, HNXT.out]; rfl
           have := HO.out
           rw [List.take_length, hre] at this
           exact this)
          have HPr := dh (HPX.out.below HBr.out)
          have HBz := dh (HBX.out.trans (HBr.out.mono hzX))
          have HXz : Hid (wr.1[xb]? = some _) := dh ((HBr.out.block xb (by have := HZX.out; omega)).trans HXX.out)
          have hzz := HBz.out.size
          have hqa : q < a.nodes.length := by rw [← HNN.out]; exact hlq
          have HQE : Hid (alongP a W n1 (k * nn + (q + 1)) = alongP a W n1 (k * nn + q) ++ [alongR a W n1 k q]) := dh (by rw [HNN.out]; exact alongP_snoc a W n1 hqa)
          have HQI : Hid (alongN a (k * nn + (q + 1)) = alongN a (k * nn + q) ++ [x.inn]) := dh (by rw [HNN.out, ← HXE.out]; exact alongN_snoc a hqa)
          obtain ⟨M, hM⟩ := xQ (k * nn + q)
          have hMl : M ≤ 7000000000 := by omega
          have HLE : Hid (((alongP a W n1 (k * nn + q)).map ncells).length = M) := dh (by rw [alongP_len]; exact hM)
          have HLI : Hid ((alongN a (k * nn + q)).length = M) := dh (by rw [alongN_len]; exact hM)
          clear hM
          generalize alongP a W n1 (k * nn + q) = E at *
          generalize alongN a (k * nn + q) = LI at *
          generalize alongR a W n1 k q = row at *
          obtain ⟨Ar, cr, hur, -⟩ := own_sl HU.out
          rw [hur] at HU
          subst hur
          have HUD : Hid (∀ (j : Nat) y g, vs[j]? = some y → y.ownBlock = some g → (Value.slice Ar row.length cr).ownBlock ≠ some g) := dh (fun j y g hy hg e => by
           have h1 := (HU.out.lt g e).1
           have h2 := (HPX.out.edges.rowlt hy g hg).2
           omega)
          have HUB := dh (own_base HU.out hzX)
          obtain ⟨Ae, ce, hve, -⟩ := own_sl HPr.out.edges.main
          rw [HLE.out] at hve
          subst hve
          have HO1 : Hid (wr.ownsRow W0.1.size 63 1 (.slice Ae M ce) M vs) := dh (by have := HPr.out.edges.main; rwa [HLE.out] at this)
          obtain ⟨p0, p1, p2, p3, p4⟩ := HPr.out.cells
          clear HO p0 p2 p3 p4 HPX
          have hnw1 := dh (heap_alloc_new wr (.cells #[.slice Ar row.length cr] 63))
          go_upto_region 27 with (at_builtin; refine wpList_push rfl (.tmp 95) (.tmp 97) 60 rfl W0.1.size 63 1 24 sliceRowsE _ _ _ (HO1.out.alloc _) rfl wr.1.size #[.slice Ar row.length cr] rfl hnw1.out rfl (by simp [Value.oneCell']) (by omega) (by omega) (by simp; omega) ?_; intro u' wA1 ho1 ht1 hat1 hne1; obtain ⟨g1, cap1, rfl, _⟩ := own_form ho1 (by omega); have HRW1 := dh (HPr.out.app_edges HUB.out HUD.out (by rw [HLE.out]; exact ho1) ht1 hat1); have HBA1 := dh (bel_app HBz.out HO1.out ht1 HSZ.out 1 (.slice (some ⟨g1, 0, none⟩) (M + 1) cap1)); have HXA1 := dh (blk_app HXz.out HO1.out (by decide) ht1 hne 1 (.slice (some ⟨g1, 0, none⟩) (M + 1) cap1)); have r1 := HRW1.out.1; have r2 := HRW1.out.2.1; have r3 := HRW1.out.2.2.1)
          obtain ⟨wB, hwB⟩ := xQ (wA1.setCell ⟨pb, 1, none⟩ (.slice (some ⟨g1, 0, none⟩) (M + 1) cap1))
          have HP3 : Hid (PlM _ _ _ _ _ _ _ _ _ _ _ _ wB) := dh (by rw [← hwB]; exact HRW1.out.2.2.2)
          have HB3 : Hid (Below W0.1.size W0 wB) := dh (by rw [← hwB]; exact HBA1.out)
          have HX3 : Hid (wB.1[xb]? = some _) := dh (by rw [← hwB]; exact HXA1.out)
          rw [hwB]
          clear hwB HRW1 HBA1 HXA1 HO1 hnw1 r1 r2 r3 ho1 ht1 hat1 hne1 p1 HPr HBz HXz HUD HUB HU
          have hz3 := HB3.out.size
          obtain ⟨An', cn', hvn, -⟩ := own_sl HP3.out.ins
          rw [HLI.out] at hvn
          subst hvn
          have HO3 : Hid (wB.ownsRow W0.1.size 41 1 (.slice An' M cn') M (ucellsN LI)) := dh (by have := HP3.out.ins; rwa [HLI.out] at this)
          obtain ⟨p0, p1, p2, p3, p4⟩ := HP3.out.cells
          obtain ⟨e0, e1, e2, e3⟩ := box4A HX3.out
          clear p0 p1 p2 p4 e0 e1 e3
          have hnw3 := dh (heap_alloc_new wB (.cells #[.int .u64 (x.inn : Int)] 41))
          go_wp2_with (at_builtin; refine wpList_push rfl (.tmp 102) (.tmp 105) 27 rfl W0.1.size 41 1 8 sliceU64 _ _ _ (HO3.out.alloc _) rfl wB.1.size #[.int .u64 (x.inn : Int)] rfl hnw3.out rfl (by simp [Value.oneCell']) (by omega) (by omega) (by simp; omega) ?_; intro u' wA3 ho3 ht3 hat3 hne3; obtain ⟨g3, cap3, rfl, _⟩ := own_form ho3 (by omega); have HRW3 := dh (HP3.out.app_ins (by rw [HLI.out]; exact ho3) ht3 hat3); have HBA3 := dh (bel_app HB3.out HO3.out ht3 HSZ.out 3 (.slice (some ⟨g3, 0, none⟩) (M + 1) cap3)); have r1 := HRW3.out.1; have r2 := HRW3.out.2.1; have r3 := HRW3.out.2.2.1)
          go_roundw
          case rel => exact ⟨q + 1, _, _, _, by omega, congrArg (Value.int .i64) (by omega), dh (by rw [HQE.out, HQI.out]; exact HRW3.out.2.2.2), HBA3⟩
          case measure => simp [intOf]; omega
       ·have hqn : q = nn := by omega
        have HPE : Hid (PlM W0.1.size pb vi (alongI a W) ve (alongP a W n1 ((k + 1) * nn)) vs (.slice none 0 0) [] vn (alongN a ((k + 1) * nn)) (allB s) wr) := dh (by
         have := HP.out
         rw [hqn, ← Nat.succ_mul] at this
         exact this)
        clear HP
        go_wp2_with fail
        go_roundw
        case rel => exact ⟨k + 1, _, _, _, by omega, congrArg (Value.int .i64) (by omega), HPE, HB⟩
        case measure => simp [intOf]; omega
    ·have hkn : k = n1 + n2 := by omega
     have HKW : Hid (k * nn = W.length * a.nodes.length) := dh (by rw [hkn, HWL.out, HNN.out])
     have HPE : Hid (PlM W0.1.size pb vi (alongI a W) ve (alongE a W n1) vs (.slice none 0 0) [] vn (alongN a (W.length * a.nodes.length)) (allB s) wr) := dh (by have := HP.out; rw [HKW.out] at this; exact this)
     obtain ⟨M, hM⟩ := xQ (W.length * a.nodes.length)
     have hMl : M ≤ 6000000000 := by rw [← hM]; exact Nat.le_trans (Nat.mul_le_mul (show W.length ≤ 60000 by have := HWL.out; omega) (show a.nodes.length ≤ 100000 by rw [← HNN.out]; exact hnnl)) (by decide)
     clear HP
     obtain ⟨Ai', ci', rfl, -⟩ := own_sl HPE.out.init
     obtain ⟨Ae, ce, rfl, -⟩ := own_sl HPE.out.edges.main
     obtain ⟨An', cn', rfl, -⟩ := own_sl HPE.out.ins
     have hl1 : ((alongE a W n1).map ncells).length = M := by rw [← hM]; exact alongP_len a W n1 _
     have hl3 : (alongN a (W.length * a.nodes.length)).length = M := by rw [alongN_len]; exact hM
     rw [hl1, hl3] at HPE
     have HLM := dh hM
     generalize hil : (alongI a W).length = ni' at *
     have HIL := dh hil
     clear hl1 hl3 hM hkn hil
     have hmk := run_make_row' (P := Tryd.prog) 27 41 (.int .u64 0) 8 Tryd.underlying27 infoU rfl .i64 .i64 M (by omega) (by omega)
     have HLB := dh (HPE.out.labelled (M := M) hzr (by unfold maxLen; omega))
     obtain ⟨p0, p1, p2, p3, p4⟩ := HPE.out.cells
     have fp2 := HPE.out.soft 2
     have hpl := HPE.out.lt
     have HBL : Hid (Below W0.1.size W0 ((wr.alloc (.cells (madeCells #[.int .u64 0] M) 41)).setCell ⟨pb, 2, none⟩ (.slice (some ⟨wr.1.size, 0, none⟩) M M))) := dh ((HB.out.trans (((Below.refl wr.1.size wr).alloc lR _).mono hzr)).setCell (p := ⟨pb, 2, none⟩) HSZ.out _)
     go_upto_region 31 with fail
     rw [World.setCell_alloc_past _ _ _ _ hpl] at HLB HBL
     generalize (wr.setCell ⟨pb, 2, none⟩ (.slice (some ⟨wr.1.size, 0, none⟩) M M)).alloc (.cells (madeCells #[.int .u64 0] M) 41) = wL at *
     clear p0 p1 p2 p3 p4 fp2 hpl hmk HPE
     obtain ⟨p0, p1, p2, p3, p4⟩ := HLB.out.cells
     have hy : wL.1[w.1.size + 1 + 1]? = some _ := (HBL.out.block (w.1.size + 1 + 1) (by have := HZ0.out; omega)).trans HY0.out
     have hylt : w.1.size + 1 + 1 < wL.1.size := by have := HZ0.out; have := HBL.out.size; omega
     have f0 : wL.frozen? ⟨w.1.size + 1 + 1, 0, none⟩ = false := frozen_of_row wL _ 0 _ _ hy
     have f1 : wL.frozen? ⟨w.1.size + 1 + 1, 1, none⟩ = false := frozen_of_row wL _ 1 _ _ hy
     have f2 : wL.frozen? ⟨w.1.size + 1 + 1, 2, none⟩ = false := frozen_of_row wL _ 2 _ _ hy
     have f3 : wL.frozen? ⟨w.1.size + 1 + 1, 3, none⟩ = false := frozen_of_row wL _ 3 _ _ hy
     have f4 : wL.frozen? ⟨w.1.size + 1 + 1, 4, none⟩ = false := frozen_of_row wL _ 4 _ _ hy
     have y0 : wL.cell? ⟨w.1.size + 1 + 1, 0, none⟩ = some (.slice none 0 0) := cR hy
     have y1 : wL.cell? ⟨w.1.size + 1 + 1, 1, none⟩ = some (.slice none 0 0) := cR hy
     have y2 : wL.cell? ⟨w.1.size + 1 + 1, 2, none⟩ = some (.slice none 0 0) := cR hy
     have y3 : wL.cell? ⟨w.1.size + 1 + 1, 3, none⟩ = some (.slice none 0 0) := cR hy
     have y4 : wL.cell? ⟨w.1.size + 1 + 1, 4, none⟩ = some (.int .u64 0) := cR hy
     have HY := dh hy
     clear hy
     go_wp2_with fail
     have hset := set5P (a := .slice Ai' ni' ci') (b := .slice Ae M ce) (c := .slice (some ⟨wr.1.size, 0, none⟩) M M) (d := .slice An' M cn') (e := .int .u64 ((allB s : Nat) : Int)) HY.out rfl
     have HT : Hid (Tch (fun k => k = w.1.size + 1 + 1) wL ((((((wL).setCell ⟨w.1.size + 1 + 1, 0, none⟩ (.slice Ai' ni' ci')).setCell ⟨w.1.size + 1 + 1, 1, none⟩ (.slice Ae M ce)).setCell ⟨w.1.size + 1 + 1, 2, none⟩ (.slice (some ⟨wr.1.size, 0, none⟩) M M)).setCell ⟨w.1.size + 1 + 1, 3, none⟩ (.slice An' M cn')).setCell ⟨w.1.size + 1 + 1, 4, none⟩ (.int .u64 ((allB s : Nat) : Int)))) := dh (Tch.setCell (S := fun k => k = w.1.size + 1 + 1) (p := ⟨w.1.size + 1 + 1, 4, none⟩) (Tch.setCell (S := fun k => k = w.1.size + 1 + 1) (p := ⟨w.1.size + 1 + 1, 3, none⟩) (Tch.setCell (S := fun k => k = w.1.size + 1 + 1) (p := ⟨w.1.size + 1 + 1, 2, none⟩) (Tch.setCell (S := fun k => k = w.1.size + 1 + 1) (p := ⟨w.1.size + 1 + 1, 1, none⟩) (Tch.setCell (S := fun k => k = w.1.size + 1 + 1) (p := ⟨w.1.size + 1 + 1, 0, none⟩) (Tch.refl _ wL) (fun _ => rfl) _) (fun _ => rfl) _) (fun _ => rfl) _) (fun _ => rfl) _) (fun _ => rfl) _)
     generalize (((((wL).setCell ⟨w.1.size + 1 + 1, 0, none⟩ (.slice Ai' ni' ci')).setCell ⟨w.1.size + 1 + 1, 1, none⟩ (.slice Ae M ce)).setCell ⟨w.1.size + 1 + 1, 2, none⟩ (.slice (some ⟨wr.1.size, 0, none⟩) M M)).setCell ⟨w.1.size + 1 + 1, 3, none⟩ (.slice An' M cn')).setCell ⟨w.1.size + 1 + 1, 4, none⟩ (.int .u64 ((allB s : Nat) : Int)) = wF at *
     have g0 : wF.cell? ⟨w.1.size + 1 + 1, 0, none⟩ = some (.slice Ai' ni' ci') := cR hset
     have g1 : wF.cell? ⟨w.1.size + 1 + 1, 1, none⟩ = some (.slice Ae M ce) := cR hset
     have g2 : wF.cell? ⟨w.1.size + 1 + 1, 2, none⟩ = some (.slice (some ⟨wr.1.size, 0, none⟩) M M) := cR hset
     have g3 : wF.cell? ⟨w.1.size + 1 + 1, 3, none⟩ = some (.slice An' M cn') := cR hset
     have g4 : wF.cell? ⟨w.1.size + 1 + 1, 4, none⟩ = some (.int .u64 ((allB s : Nat) : Int)) := cR hset
     have HFIN := dh (play_done HLB.out HT.out (by have := HZ0.out; omega) (by omega) HB0.out HBL.out)
     rw [← HLM.out] at HFIN
     rw [HLM.out] at HFIN
     refine bodyPost_ret (v := .agg #[.slice Ai' ni' ci', .slice Ae M ce, .slice (some ⟨wr.1.size, 0, none⟩) M M, .slice An' M cn', .int .u64 ((allB s : Nat) : Int)]) ?_ rfl (by have := HFIN.out; rw [← HLM.out] at this ⊢; exact this)
     simp [results, Tryd.results55, go_sem, g0, g1, g2, g3, g4]
end Go.Proofs.YtiebpncpdbnelaaDoor
