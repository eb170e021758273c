/- The walk of layer 30's reference: lies. -/
import Derived.Test.YtiebpncpdbnelaaGreatDoorZbe
set_option maxHeartbeats 8000000
set_option maxRecDepth 100000
namespace Go.Proofs.YtiebpncpdbnelaaGreatDoor
open Go.RowKit
def askL (a : Aut) (l : List Nat) (i : Int) (m : Nat) : Bool := decide (i < 0) || (a.at (l.getD m 0)).inn.testBit i.toNat
theorem lies30_any (a : Aut) (Ai : Option Addr) (ni ci : Nat) (An : Option Addr) (nn cn : Nat) (z : List Bool) (Az : Option Addr) (n cz : Nat) (l : List Nat) (Ao : Option Addr) (co : Nat) (i : Int) (w : World) (B : Nat) (h : AutRd w B a Ai ni ci An nn cn)
  (hz : Sl w B 1 Az n cz (z.map .bool)) (ho : Sl w B 1 Ao n co (icells (natI l))) (hn : n = z.length) (hn2 : n = l.length) (hB : B ≤ w.1.size) (hl : ∀ x ∈ l, x < nn) (hi : i ≤ 63) (hi0 : -1 ≤ i) (hnl : n ≤ 1000000) (hnn : nn ≤ 1000000) :
  Calls Tryz.prog 80 #[.agg #[.int .i64 a.sets, .slice Ai ni ci, .slice An nn cn], .slice Az n cz, .slice Ao n co, .int .i64 i] w (NewRow w 4 1 n (bcells (goalZ z (askL a l i))) False) := by
 obtain ⟨s, hs⟩ := xQ a.sets
 have HIN := dh (fun (k : Nat) (w' : World) (h' : AutRd w' B a Ai ni ci An nn cn) (hB' : B ≤ w'.1.size) (hk : k < nn) => in30_any a Ai ni ci An nn cn k i.toNat w' B h' hB' hk (by omega) hnn)
 rw [hs] at HIN ⊢
 have hb0 : Below w.1.size w (w.alloc (.cells #[.int .i64 s, .slice Ai ni ci, .slice An nn cn] 25)) := bR.alloc lR _
 have hx0 := heap_alloc_new w (.cells #[.int .i64 s, .slice Ai ni ci, .slice An nn cn] 25)
 have hz0 : (w.alloc (.cells #[.int .i64 s, .slice Ai ni ci, .slice An nn cn] 25)).1.size = w.1.size + 1 := by simp
 obtain ⟨W0, hW0⟩ := xQ (w.alloc (.cells #[.int .i64 s, .slice Ai ni ci, .slice An nn cn] 25))
 rw [hW0] at hb0 hx0 hz0
 have HW0 := dh hW0
 have hmk := run_make_row' (P := Tryz.prog) 48 4 (.bool false) 1 Tryz.underlying48 infoBool rfl .i64 .i64 n (by omega) (by omega)
 have HH := dh (h.below hb0 hB)
 have HZ := dh (hz.below hb0 hB)
 have HO := dh (ho.below hb0 hB)
 have HN := dh hn
 have HN2 := dh hn2
 have HL := dh hl
 have HX0 := dh hx0
 clear hW0 hs h hz ho hn hn2 hl hx0
 go_enter Tryz.func80, Tryz.ntmps80
 go_wp2_with fail
 obtain ⟨gq, hgq⟩ := xR (w.1.size + 1)
 have hF0 : ∃ W, W = (W0.alloc (.cells (madeCells #[.bool false] n) 4)) ∧ W.ownsRow gq 4 1 (.slice (some ⟨gq, 0, none⟩) n n) n (bcells ((List.range 0).map (fun k => z.getD k false && askL a l i k) ++ List.replicate (n - 0) false)) ∧ Below gq W0 W := by
  refine ⟨_, rfl, ?_, bR.alloc (by rw [hgq]; omega) _⟩
  have := own_made (w := W0) (base := gq) (e := 4) (n := n) (v := .bool false) (by rw [hgq]; omega) (by unfold maxLen; omega)
  rw [hz0, ← hgq] at this
  simpa [bcells] using this
 obtain ⟨W, hW, hown, hbW⟩ := hF0
 rw [HW0.out, ← hgq, ← hW]
 have hgq1 : w.1.size + 1 ≤ gq := by omega
 have hgq2 : gq ≤ w.1.size + 1 := by omega
 clear hW hmk hgq
 go_loopw [10] (fun v wr => ∃ k : Nat, k ≤ n ∧ v = .int .i64 k ∧ wr.ownsRow gq 4 1 (.slice (some ⟨gq, 0, none⟩) n n) n (bcells ((List.range k).map (fun k => z.getD k false && askL a l i k) ++ List.replicate (n - k) false)) ∧ Below gq W0 wr) (fun v _ => n - (intOf v).toNat)
 case atStart => exact ⟨0, by omega, rfl, hown, hbW⟩
 case round =>
  obtain ⟨k, hk, rfl, hR, hbr⟩ := hrel
  clear hown
  have hszr : gq ≤ wr.1.size := by have := hbr.size; omega
  by_cases hlt : k < n
  ·have j0 : (0 : Int) ≤ (k : Int) := by omega
   have j1 : (k : Int) < (n : Int) := by omega
   have hkz : k < z.length := by rw [← HN.out]; exact hlt
   have hko : k < l.length := by rw [← HN2.out]; exact hlt
   have hbz : Below gq W0 wr := hbr
   obtain ⟨zb, zo, rfl, hzb, hzc⟩ := (HZ.out.rd.below hbr (by omega)).at_ (bcells'_at hkz)
   obtain ⟨ob, oo, rfl, hob, hoc⟩ := rd_intS (HO.out.below hbr (by omega)) (k := k) (by simpa [natI] using hko)
   have hov : (natI l)[k]'(by simpa [natI] using hko) = ((l[k] : Nat) : Int) := by simp [natI]
   rw [hov] at hoc
   have hlk := HL.out _ (mM hko)
   have hak : askL a l i k = (decide (i < 0) || (a.at l[k]).inn.testBit i.toNat) := by unfold askL; simp [List.getD, hko]
   generalize l[k] = y at *
   have hHr := HH.out.below hbr (by omega)
   have x1 := (hbr.block w.1.size (by omega)).trans HX0.out
   obtain ⟨m0, m1, m2⟩ := box3A x1
   have hbd : Below wr.1.size wr wr.drew := Below.drew bR
   obtain ⟨wd, hwd⟩ := xQ wr.drew
   rw [hwd] at hbd
   have HWD := dh hwd
   have HCI := dh (HIN.out y wd (hHr.below hbd (by omega)) (by have := hbd.size; omega) hlk)
   have wk : IntKind.i64.wrap ((k : Int) + 1) = k + 1 := by rw [wI]; omega
   obtain ⟨_, hfr0, hgl, _⟩ := own_getB hR hlt
   have HRR := dh hR
   have HRS := dh (row_setB hlt (fun k => z.getD k false && askL a l i k) false)
   have HAK := dh hak
   have hzbl : zb < wr.1.size := by omega
   have hobl : ob < wr.1.size := by omega
   have hwl : w.1.size < wr.1.size := by omega
   clear hwd hov hlk hak x1 hR hHr hbz
   obtain ⟨zv, hzv⟩ := xQ (z.getD k false)
   have HZV := dh hzv
   rw [hzv] at hzc
   clear hzv
   cases zv
   ·have hval : Hid ((z.getD k false && askL a l i k) = false) := dh (by rw [HZV.out]; rfl)
    go_wp2_with fail
    have hbd0 : Below wr.1.size wr wr.drew := Below.drew bR
    obtain ⟨q6, f6, g6, _⟩ := own_getB HRR.out hlt
    refine wp_region_T (S := fun w' => w'.cell? ⟨zb, zo + k, none⟩ = some (.bool false) ∧ w'.cell? ⟨ob, oo + k, none⟩ = some (.int .i64 (y : Int)) ∧ w'.cell? ⟨w.1.size, 0, none⟩ = some (.int .i64 s) ∧ w'.cell? ⟨w.1.size, 1, none⟩ = some (.slice Ai ni ci) ∧ w'.cell? ⟨w.1.size, 2, none⟩ = some (.slice An nn cn)) 20 (by kernel_rfl) (⟨hzc, hoc, m0, m1, m2⟩) (fun hS => ?_)
    refine tkT 0 ?_
    refine tkT 1 ?_
    refine tkT 2 ?_
    refine tkT 3 ?_
    refine tkT 4 ?_
    refine tkT 5 ?_
    refine tkT 6 ?_
    refine skT 7 ?_
    refine skT 8 ?_
    refine skT 9 ?_
    refine skT 10 ?_
    refine skT 11 ?_
    refine skT 12 ?_
    refine skT 13 ?_
    refine skT 14 ?_
    refine skT 15 ?_
    refine skT 16 ?_
    refine skT 17 ?_
    refine tkT 18 ?_
    refine wpAnyT_oneD (i := 19) rfl (by kernel_rfl) (by decide) (fun K hK => ?_)
    go_simp
    refine hK.out _ _ ⟨bC hbd0 hzbl hzc, bC hbd0 hobl hoc, bC hbd0 hwl m0, bC hbd0 hwl m1, bC hbd0 hwl m2⟩ (fun hS => ?_)
    clear hK
    refine wpAnyT_endD rfl (by kernel_rfl) (by kernel_rfl) (fun K hK => ?_)
    go_simp
    refine hK.out _ _ ?_
    clear hK
    go_wp2_with fail
    go_roundw
    case rel =>
     have h1 := own_setB (t := k) (d := (z.getD k false && askL a l i k)) (HRR.out.drew)
     rw [HRS.out, hval.out] at h1
     exact ⟨k + 1, by omega, by go_num, h1, (hbr.trans ((bR.drew).mono hszr)).setCell (p := ⟨gq, k, none⟩) lR _⟩
    case measure => simp [intOf]; omega
   ·by_cases hneg : i < 0
    ·have dneg : decide (i < 0) = true := decide_eq_true hneg
     have hval : Hid ((z.getD k false && askL a l i k) = true) := dh (by rw [HZV.out, HAK.out, dneg]; rfl)
     go_wp2_with fail
     have hbd0 : Below wr.1.size wr wr.drew := Below.drew bR
     obtain ⟨q6, f6, g6, _⟩ := own_getB HRR.out hlt
     refine wp_region_T (S := fun w' => w'.cell? ⟨zb, zo + k, none⟩ = some (.bool true) ∧ w'.cell? ⟨ob, oo + k, none⟩ = some (.int .i64 (y : Int)) ∧ w'.cell? ⟨w.1.size, 0, none⟩ = some (.int .i64 s) ∧ w'.cell? ⟨w.1.size, 1, none⟩ = some (.slice Ai ni ci) ∧ w'.cell? ⟨w.1.size, 2, none⟩ = some (.slice An nn cn)) 20 (by kernel_rfl) (⟨hzc, hoc, m0, m1, m2⟩) (fun hS => ?_)
     refine tkT 0 ?_
     refine tkT 1 ?_
     refine tkT 2 ?_
     refine tkT 3 ?_
     refine tkT 4 ?_
     refine tkT 5 ?_
     refine tkT 6 ?_
     refine tkT 7 ?_
     refine tkT 8 ?_
     refine tkT 9 ?_
     refine skT 10 ?_
     refine skT 11 ?_
     refine skT 12 ?_
     refine skT 13 ?_
     refine skT 14 ?_
     refine skT 15 ?_
     refine skT 16 ?_
     refine tkT 17 ?_
     refine tkT 18 ?_
     refine wpAnyT_oneD (i := 19) rfl (by kernel_rfl) (by decide) (fun K hK => ?_)
     go_simp
     refine hK.out _ _ ⟨bC hbd0 hzbl hzc, bC hbd0 hobl hoc, bC hbd0 hwl m0, bC hbd0 hwl m1, bC hbd0 hwl m2⟩ (fun hS => ?_)
     clear hK
     refine wpAnyT_endD rfl (by kernel_rfl) (by kernel_rfl) (fun K hK => ?_)
     go_simp
     refine hK.out _ _ ?_
     clear hK
     go_wp2_with fail
     go_roundw
     case rel =>
      have h1 := own_setB (t := k) (d := (z.getD k false && askL a l i k)) (HRR.out.drew)
      rw [HRS.out, hval.out] at h1
      exact ⟨k + 1, by omega, by go_num, h1, (hbr.trans ((bR.drew).mono hszr)).setCell (p := ⟨gq, k, none⟩) lR _⟩
     case measure => simp [intOf]; omega
    ·have dneg : decide (i < 0) = false := decide_eq_false hneg
     have hin : (i.toNat : Int) = i := by omega
     rw [hin] at HCI
     obtain ⟨bt, hbt⟩ := xQ ((a.at y).inn.testBit i.toNat)
     rw [hbt] at HCI
     have hval : Hid ((z.getD k false && askL a l i k) = bt) := dh (by rw [HZV.out, HAK.out, dneg, hbt]; rfl)
     clear hbt hin
     go_wp2_with fail
     refine wp_region_T (S := fun w' => w'.cell? ⟨zb, zo + k, none⟩ = some (.bool true) ∧ w'.cell? ⟨ob, oo + k, none⟩ = some (.int .i64 (y : Int)) ∧ w'.cell? ⟨w.1.size, 0, none⟩ = some (.int .i64 s) ∧ w'.cell? ⟨w.1.size, 1, none⟩ = some (.slice Ai ni ci) ∧ w'.cell? ⟨w.1.size, 2, none⟩ = some (.slice An nn cn)) 20 (by kernel_rfl) (⟨hzc, hoc, m0, m1, m2⟩) (fun hS => ?_)
     refine tkT 0 ?_
     refine tkT 1 ?_
     refine tkT 2 ?_
     refine tkT 3 ?_
     refine tkT 4 ?_
     refine tkT 5 ?_
     refine tkT 6 ?_
     refine tkT 7 ?_
     refine tkT 8 ?_
     refine tkT 9 ?_
     refine tkT 10 ?_
     refine tkT 11 ?_
     refine tkT 12 ?_
     refine tkT 13 ?_
     refine tkT 14 ?_
     refine tkT 15 ?_
     refine wpAnyT_oneD (i := 16) rfl (by kernel_rfl) (by decide) (fun K hK => ?_)
     go_simp
     rw [HWD.out]
     refine Calls.mono HCI.out ?_
     rintro e w6 ⟨rfl, hb6'⟩
     have hbw6 : Below wr.1.size wr w6 := hbd.trans (hb6'.mono hbd.size)
     clear hb6'
     have hfr6 := own_tch HRR.out (Tch.of_below hbw6) (fun g hg => by have := (HRR.out.lt g hg).2; omega)
     obtain ⟨q6, f6, g6, _⟩ := own_getB hfr6 hlt
     clear hfr6
     dsimp only
     refine hK.out _ _ ⟨bC hbw6 hzbl hzc, bC hbw6 hobl hoc, bC hbw6 hwl m0, bC hbw6 hwl m1, bC hbw6 hwl m2⟩ (fun hS => ?_)
     clear hK
     refine tkT 17 ?_
     refine tkT 18 ?_
     refine wpAnyT_oneD (i := 19) rfl (by kernel_rfl) (by decide) (fun K hK => ?_)
     go_simp
     refine hK.out _ _ ⟨bC hbw6 hzbl hzc, bC hbw6 hobl hoc, bC hbw6 hwl m0, bC hbw6 hwl m1, bC hbw6 hwl m2⟩ (fun hS => ?_)
     clear hK
     refine wpAnyT_endD rfl (by kernel_rfl) (by kernel_rfl) (fun K hK => ?_)
     go_simp
     refine hK.out _ _ ?_
     clear hK
     go_wp2_with fail
     go_roundw
     case rel =>
      have h0 := own_tch HRR.out (Tch.of_below hbw6) (fun g hg => by have := (HRR.out.lt g hg).2; omega)
      have h1 := own_setB (t := k) (d := (z.getD k false && askL a l i k)) h0
      rw [HRS.out, hval.out] at h1
      exact ⟨k + 1, by omega, by go_num, h1, (hbr.trans (hbw6.mono hszr)).setCell (p := ⟨gq, k, none⟩) lR _⟩
     case measure => simp [intOf]; omega
  ·have hkn : k = n := by omega
   subst hkn
   have hfin : (List.range k).map (fun k => z.getD k false && askL a l i k) ++ List.replicate (k - k) false = goalZ z (askL a l i) := by
    rw [Nat.sub_self, List.replicate_zero, List.append_nil, goalZ, ← HN.out]
   rw [hfin] at hR
   have HR := dh hR
   clear hR hfin
   go_wp2_with fail
   go_ret
   exact ⟨_, rfl, own_base HR.out (by omega), hb0.trans (hbr.mono (by omega)), by simp⟩
end Go.Proofs.YtiebpncpdbnelaaGreatDoor
