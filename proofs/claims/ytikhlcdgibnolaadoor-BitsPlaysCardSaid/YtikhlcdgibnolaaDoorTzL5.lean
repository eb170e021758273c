/- Law BitsPlays: what a set of any length has, whatever is put into it and dropped out of it. -/
import Derived.Test.YtikhlcdgibnolaaDoorTz4
import Derived.Test.YtikhlcdgibnolaaDoorTr5
import Derived.Test.YtikhlcdgibnolaaDoorTzL1
import Derived.Test.YtikhlcdgibnolaaDoorOpenO
import Derived.Deep.QuietTactic
import Derived.BigQuiet
namespace Go.Proofs.YtikhlcdgibnolaaDoor
open Go.RowKit Go.Shelf

theorem has_same {n : Nat} {X : List Nat} {x : List Bool} (h : SameW n X x) (i : Int) : hasI n X i = hasL n x i := by rw [hasI, hasL, h.bit]
theorem SameW.with1 {n : Nat} {X : List Nat} {x : List Bool} (h : SameW n X x) (i : Int) : SameW n (putI n X i) (withL n x i true) := by
  unfold putI withL
  by_cases hi : inB n i = true
  · rw [if_pos hi, if_pos hi]; exact h.put (by simp [inB] at hi; omega)
  · rw [if_neg hi, if_neg hi]; exact h
theorem SameW.with0 {n : Nat} {X : List Nat} {x : List Bool} (h : SameW n X x) (hX : ∀ y ∈ X, y < 2 ^ 64) (i : Int) : SameW n (dropI n X i) (withL n x i false) := by
  unfold dropI withL
  by_cases hi : inB n i = true
  · rw [if_pos hi]
    by_cases hh : hasI n X i = true
    · rw [if_pos hh]; exact h.drop hX (by simp [inB] at hi; omega)
    · rw [if_neg hh]
      have hb : x.getD i.toNat false = false := by
        rw [has_same h, hasL, hi, Bool.true_and] at hh
        simpa using hh
      have : x.set i.toNat false = x := by
        refine List.ext_getElem (by simp) (fun j g1 g2 => ?_)
        rw [List.getElem_set]
        by_cases e : i.toNat = j
        · subst e; rw [if_pos rfl, ← hb, List.getD_eq_getElem?_getD, List.getElem?_eq_getElem g2]; rfl
        · rw [if_neg e]
      rw [this]; exact h
  · have hh : ¬ hasI n X i = true := by simp [hasI, hi]
    rw [if_neg hi, if_neg hh]; exact h
theorem did1 {n : Nat} {X : List Nat} {x : List Bool} (h : SameW n X x) (i : Int) : didL n x i true = (inB n i && !bitOf X i.toNat) := by
  rw [didL, h.bit]; cases x.getD i.toNat false <;> simp
theorem did0 {n : Nat} {X : List Nat} {x : List Bool} (h : SameW n X x) (i : Int) : didL n x i false = hasI n X i := by
  rw [didL, hasI, h.bit]; cases x.getD i.toNat false <;> simp
theorem withL_len (n : Nat) (x : List Bool) (i : Int) (b : Bool) : (withL n x i b).length = x.length := by unfold withL; split <;> simp
/-- A row that reads in no block q stays where q turns. -/
theorem sl_apart {w w' : World} {B q n c : Nat} {A : Option Addr} {xs : List Value} (h : Sl w B 1 A n c xs) (hB : B ≤ w.heap.size) (ht : Tch (fun j => j = q) w w') (hq : ∀ b o, A = some ⟨b, o, none⟩ → b ≠ q) : Sl w' B 1 A n c xs := by
  refine { h with rd := ?_ }
  rcases h.rd with h0 | ⟨b, off, hA, hb, hc⟩
  · exact .inl h0
  · exact .inr ⟨b, off, hA, hb, fun j u hj => (ht.cell (p := ⟨b, off + j, none⟩) (by show b < _; omega) (hq b off hA)).trans (hc j u hj)⟩

set_option maxRecDepth 100000 in
set_option maxHeartbeats 1000000 in
theorem playsNo (n : Int) (A : Option Addr) (m c : Nat) (w : World) (h : n < 0 ∨ 65536 < n) : Calls Tryd.prog 4 #[.int .i64 n, .slice A m c] w (Tru w true) := by
  have HA := Lib.hid (bnewNil_any n w h)
  have HR := Lib.hid (rNewNil_any n w h)
  clear h
  go_enter Tryd.func4, Tryd.ntmps4
  go_wp2_with fail
  refine Calls.mono HA.out ?_
  rintro e wx ⟨rfl, rfl⟩
  go_wp2_with fail
  refine Calls.mono HR.out ?_
  rintro e wx ⟨rfl, hwx⟩
  obtain rfl : w = wx := hwx.symm
  go_wp2_with fail
  refine (bawake_any _).mono ?_
  rintro e wz ⟨rfl, hbz⟩
  go_wp2
  go_ret
  exact ⟨rfl, hbz⟩
set_option maxRecDepth 100000 in
set_option maxHeartbeats 1000000 in
theorem playsBig (n : Nat) (A : Option Addr) (m c : Nat) (w : World) (h : 300 < n ∧ n ≤ 65536) : Calls Tryd.prog 4 #[.int .i64 (n : Int), .slice A m c] w (Tru w true) := by
  have hn : n ≤ 65536 := by omega
  have HA := Lib.hid (bnew_any n _ w hn rfl)
  have hst := BSet.start n w (k := (n + 63) / 64) rfl hn
  have hbel : Below w.heap.size w ((w.alloc (.cells (madeCells #[.int .u64 0] ((n + 63) / 64)) 22)).alloc (.cells #[.int .i64 (n : Int), .slice (some ⟨w.heap.size, 0, none⟩) ((n + 63) / 64) ((n + 63) / 64)] 59)) :=
    ((Below.refl _ _).alloc (Nat.le_refl _) _).alloc (by simp) _
  have HR := Lib.hid (fun w' => rNew_any n w' hn)
  have hee : ((n : Int) == (n : Int)) = true := by simp
  have d1 : decide ((300 : Int) < (n : Int)) = true := by simp; omega
  clear h
  go_enter Tryd.func4, Tryd.ntmps4
  go_wp2_with fail
  refine Calls.mono HA.out ?_
  rintro e w1 ⟨rfl, hw1⟩
  rw [← hw1] at hst hbel
  clear hw1 HA
  go_wp2_with fail
  refine Calls.mono (HR.out _) ?_
  rintro e w2 ⟨g, rfl, _, hb2⟩
  have hb02 := hbel.trans (hb2.mono hbel.size)
  have HL := Lib.hid (blen_any _ _ _ _ w2 (hst.below hb2))
  clear hst HR
  go_wp2_with fail
  refine Calls.mono HL.out ?_
  rintro e wx ⟨rfl, rfl⟩
  go_wp2_with fail
  refine (bawake_any _).mono ?_
  rintro e wz ⟨rfl, hbz⟩
  go_wp2
  go_ret
  exact ⟨rfl, hb02.trans (hbz.mono hb02.size)⟩
set_option maxRecDepth 100000 in
set_option maxHeartbeats 1000000 in
theorem playsLong (n : Nat) (A : Option Addr) (m c : Nat) (w : World) (h : n ≤ 300 ∧ 100 < m) : Calls Tryd.prog 4 #[.int .i64 (n : Int), .slice A m c] w (Tru w true) := by
  have hn : n ≤ 65536 := by omega
  have HA := Lib.hid (bnew_any n _ w hn rfl)
  have hst := BSet.start n w (k := (n + 63) / 64) rfl hn
  have hbel : Below w.heap.size w ((w.alloc (.cells (madeCells #[.int .u64 0] ((n + 63) / 64)) 22)).alloc (.cells #[.int .i64 (n : Int), .slice (some ⟨w.heap.size, 0, none⟩) ((n + 63) / 64) ((n + 63) / 64)] 59)) :=
    ((Below.refl _ _).alloc (Nat.le_refl _) _).alloc (by simp) _
  have HR := Lib.hid (fun w' => rNew_any n w' hn)
  have hee : ((n : Int) == (n : Int)) = true := by simp
  have d1 : decide ((300 : Int) < (n : Int)) = false := by simp; omega
  have d2 : (100 : Int) < (m : Int) := by omega
  clear h
  go_enter Tryd.func4, Tryd.ntmps4
  go_wp2_with fail
  refine Calls.mono HA.out ?_
  rintro e w1 ⟨rfl, hw1⟩
  rw [← hw1] at hst hbel
  clear hw1 HA
  go_wp2_with fail
  refine Calls.mono (HR.out _) ?_
  rintro e w2 ⟨g, rfl, _, hb2⟩
  have hb02 := hbel.trans (hb2.mono hbel.size)
  have HL := Lib.hid (blen_any _ _ _ _ w2 (hst.below hb2))
  clear hst HR
  go_wp2_with fail
  refine Calls.mono HL.out ?_
  rintro e wx ⟨rfl, rfl⟩
  go_wp2_with fail
  refine (bawake_any _).mono ?_
  rintro e wz ⟨rfl, hbz⟩
  go_wp2
  go_ret
  exact ⟨rfl, hb02.trans (hbz.mono hb02.size)⟩
theorem drew1_below3 {w : World} : Below w.heap.size w w.drew := ⟨rfl, rfl, rfl, Nat.le_refl _, fun _ _ => rfl⟩
theorem drew_below3 {w : World} {m : Nat} : Below w.heap.size w (w.drewN m) := ⟨rfl, rfl, rfl, Nat.le_refl _, fun _ _ => rfl⟩
set_option maxRecDepth 100000 in
set_option maxHeartbeats 8000000 in
theorem playsYes (n : Nat) (A : Option Addr) (m c : Nat) (l : List Nd) (w : World) (hn : n ≤ 300) (hm : m = l.length) (h100 : m ≤ 100) (hs : Sl w w.heap.size 2 A m c (ocells l)) (hok : ∀ x ∈ l, OpOk x) (hg : 0 < w.heap.size) (hT : TabAt 0 Lib.deBruijn64tab w) :
    Calls Tryd.prog 4 #[.int .i64 (n : Int), .slice A m c] w (Tru w true) := by
  have HA := Lib.hid (bnew_any n _ w (by omega) rfl)
  have hst := BSet.start n w (k := (n + 63) / 64) rfl (by omega)
  have hbel : Below w.heap.size w ((w.alloc (.cells (madeCells #[.int .u64 0] ((n + 63) / 64)) 22)).alloc (.cells #[.int .i64 (n : Int), .slice (some ⟨w.heap.size, 0, none⟩) ((n + 63) / 64) ((n + 63) / 64)] 59)) :=
    ((Below.refl _ _).alloc (Nat.le_refl _) _).alloc (by simp) _
  have HR := Lib.hid (fun w' => rNew_any n w' (by omega))
  have hSW := SameW.start n
  have d1 : decide ((300 : Int) < (n : Int)) = false := by simp; omega
  have d2 : decide ((100 : Int) < (m : Int)) = false := by simp; omega
  have HM := Lib.hid hm
  have HTAB := Lib.hid (fun (w' : World) (hb : Below w.heap.size w w') => tab_below hT hg hb)
  clear hm hT
  go_enter Tryd.func4, Tryd.ntmps4
  go_wp2_with fail
  refine Calls.mono HA.out ?_
  rintro e w1 ⟨rfl, hw1⟩
  have hz1 : w1.heap.size = w.heap.size + 2 := by rw [hw1]; simp
  rw [← hw1] at hst hbel
  have HZ1 := Lib.hid hz1
  have hz1' : w.heap.size + 2 ≤ w1.heap.size := by omega
  clear hw1 HA hz1
  go_wp2_with fail
  refine Calls.mono (HR.out _) ?_
  rintro e w2 ⟨g, rfl, hown, hb2⟩
  have hb02 := hbel.trans (hb2.mono hbel.size)
  have hst2 := hst.below hb2
  have hgl := hown.lt g rfl
  obtain ⟨_, _, e1, hsx⟩ := own_sl hown
  cases e1
  generalize hX0 : List.replicate ((n + 63) / 64) 0 = X0 at *
  generalize hx0 : List.replicate n false = x0 at *
  clear hst HR hown hX0 hx0
  go_wp2_with fail
  go_loopw [6, 8] (fun v i wr => ∃ (k : Nat) (X : List Nat) (x : List Bool) (Ax : Option Addr) (cx : Nat), k ≤ m ∧ i = .int .i64 k ∧ v = .slice Ax n cx ∧ BSet (w.heap.size + 1) w.heap.size n X wr ∧ SameW n X x ∧ Sl wr wr.heap.size 1 Ax n cx (bcells x) ∧ (∀ b o, Ax = some ⟨b, o, none⟩ → b ≠ w.heap.size) ∧ Below w.heap.size w wr) (fun _ i _ => m - (intOf i).toNat)
  case atStart => exact ⟨0, X0, x0, _, _, Nat.zero_le _, rfl, rfl, hst2, hSW, hsx, fun b o e => by injection e with e; injection e with e; omega, hb02⟩
  case round =>
    clear hst2 hSW hsx hbel hb02 hb2 hgl HZ1 hz1'
    obtain ⟨k, X, x, Ax, cx, hk, rfl, rfl, hS, hSW, hsx, hapart, hb⟩ := hrel
    by_cases hlt : k < m
    · have hkl : k < l.length := by rw [← HM.out]; exact hlt
      obtain ⟨lb, lo, rfl, hlb, hc0, hc1⟩ := rd_op hs.rd hkl
      have hw := hok _ (List.getElem_mem hkl)
      have c0 := (hb.cell (p := ⟨lb, lo + k * 2, none⟩) hlb).trans hc0
      have c1 := (hb.cell (p := ⟨lb, lo + k * 2 + 1, none⟩) hlb).trans hc1
      obtain ⟨hw0, hw1⟩ := hw
      have HOK := Lib.hid hok
      have HSL := Lib.hid hs
      clear hc0 hc1 hok hs
      generalize hnd : l[k] = nd at *
      obtain ⟨kd, nn⟩ := nd
      dsimp only at *
      have b0 := bounds_u8 hw0
      have b1 := bounds_i64 hw1
      have HND := Lib.hid hnd
      clear hnd hw0 hw1
      have hlbr : lb < wr.heap.size := Nat.lt_of_lt_of_le hlb hb.size
      have HL := Lib.hid hSW.len
      have hxl := HL.out.symm
      have HHP := Lib.hid (fun (w' : World) (hb' : Below wr.heap.size wr w') => (bhasI_any (w.heap.size + 1) w.heap.size n X nn w' (hS.below hb')).mono (R' := fun e w'' => e = .returned (.bool (hasI n X nn)) ∧ w'' = w') (fun e w'' h => ⟨h.1, h.2.symm⟩))
      have HHR := Lib.hid (fun (w' : World) (hb' : Below wr.heap.size wr w') => rHas_any Ax n cx x nn w' w'.heap.size ((hsx.below hb' (Nat.le_refl _)).up hb'.size) hxl)
      rw [← has_same hSW nn] at HHR
      generalize hasI n X nn = hb0 at HHP HHR
      clear hxl
      have k0 : (0 : Int) ≤ (k : Int) := by omega
      have k1 : (k : Int) < (m : Int) := by omega
      go_wp2_with fail
      go_quiet (first | (go_at_call 16; exact Calls.quiet_of_same (HHP.out _ drew_below3)) | (go_at_call 17; exact Calls.quiet_of_same (HHR.out _ drew_below3)))
      obtain ⟨wq, hwq⟩ : ∃ wq, wr.drewN nq = wq := ⟨_, rfl⟩
      have hbq : Below wr.heap.size wr wq := by rw [← hwq]; exact drew_below3
      rw [hwq]
      clear hwq HHP HHR
      have hSq := hS.below hbq
      have hsq := (hsx.below hbq (Nat.le_refl _)).up hbq.size
      have hbwq := hb.trans (hbq.mono hb.size)
      have q0 := (hbq.cell (p := ⟨lb, lo + k * 2, none⟩) hlbr).trans c0
      have q1 := (hbq.cell (p := ⟨lb, lo + k * 2 + 1, none⟩) hlbr).trans c1
      have hlbq : lb < wq.heap.size := Nat.lt_of_lt_of_le hlbr hbq.size
      clear c0 c1 hsx hS hbq hlbr
      have c0 := q0
      have c1 := q1
      have hlbr := hlbq
      clear q0 q1 hlbq
      have hX64 := hSq.2.2.2.1
      have t3 : kd.tmod 3 = kd % 3 := Int.tmod_eq_emod_of_nonneg b0.1
      have hr : kd % 3 = 0 ∨ kd % 3 = 1 ∨ kd % 3 = 2 := by omega
      rcases hr with m3 | m3 | m3
      · rw [m3] at t3
        have HWI := Lib.hid (fun (w' : World) (hb' : Below wq.heap.size wq w') => rWith_any Ax n cx x nn true w' ((hsq.below hb' (Nat.le_refl _)).up hb'.size) HL.out.symm (by omega))
        have hput := fun (w' : World) (hb' : Below wq.heap.size wq w') => bputI_any (w.heap.size + 1) w.heap.size n X nn w' (hSq.below hb')
        rw [← did1 hSW nn] at hput
        have HSW2 := Lib.hid (hSW.with1 nn)
        have HPUT := Lib.hid hput
        clear hput
        generalize didL n x nn true = dd at *
        generalize withL n x nn true = x2 at *
        generalize putI n X nn = X2 at *
        go_wp2_with fail
        refine wp_region_held_drew (S := fun w' => w'.cell? ⟨lb, lo + k * 2, none⟩ = some (.int .u8 kd) ∧ w'.cell? ⟨lb, lo + k * 2 + 1, none⟩ = some (.int .i64 nn)) (by kernel_rfl) ⟨c0, c1⟩ (fun hS => ?_)
        refine wpAnyH_takeD (i := 0) (v := ?_) rfl (by kernel_rfl) (by kernel_rfl) (by kernel_rfl) (fun _ _ _ h => h) (Or.inl ⟨by kernel_rfl, ?_⟩) hS ?_
        rotate_left 1
        · (intro w' hSw; (try dsimp only at hSw); go_simp; try (with_reducible rfl))
        try simp only [Act.put, List.setIfInBounds_toArray, List.set_cons_zero, List.set_cons_succ]
        refine wpAnyH_takeD (i := 1) (v := ?_) rfl (by kernel_rfl) (by kernel_rfl) (by kernel_rfl) (fun _ _ _ h => h) (Or.inl ⟨by kernel_rfl, ?_⟩) hS ?_
        rotate_left 1
        · (intro w' hSw; (try dsimp only at hSw); go_simp; try (with_reducible rfl))
        try simp only [Act.put, List.setIfInBounds_toArray, List.set_cons_zero, List.set_cons_succ]
        refine wpAnyH_takeD (i := 2) (v := ?_) rfl (by kernel_rfl) (by kernel_rfl) (by kernel_rfl) (fun _ _ _ h => h) (Or.inl ⟨by kernel_rfl, ?_⟩) hS ?_
        rotate_left 1
        · (intro w' hSw; (try dsimp only at hSw); go_simp; try (with_reducible rfl))
        try simp only [Act.put, List.setIfInBounds_toArray, List.set_cons_zero, List.set_cons_succ]
        refine wpAnyH_takeD (i := 3) (v := ?_) rfl (by kernel_rfl) (by kernel_rfl) (by kernel_rfl) (fun _ _ _ h => h) (Or.inl ⟨by kernel_rfl, ?_⟩) hS ?_
        rotate_left 1
        · (intro w' hSw; (try dsimp only at hSw); go_simp; try (with_reducible rfl))
        try simp only [Act.put, List.setIfInBounds_toArray, List.set_cons_zero, List.set_cons_succ]
        refine wpAnyH_takeD (i := 4) (v := ?_) rfl (by kernel_rfl) (by kernel_rfl) (by kernel_rfl) (fun _ _ _ h => h) (Or.inl ⟨by kernel_rfl, ?_⟩) hS ?_
        rotate_left 1
        · (intro w' hSw; (try dsimp only at hSw); go_simp; try (with_reducible rfl))
        try simp only [Act.put, List.setIfInBounds_toArray, List.set_cons_zero, List.set_cons_succ]
        refine wpAnyH_takeD (i := 5) (v := ?_) rfl (by kernel_rfl) (by kernel_rfl) (by kernel_rfl) (fun _ _ _ h => h) (Or.inl ⟨by kernel_rfl, ?_⟩) hS ?_
        rotate_left 1
        · (intro w' hSw; (try dsimp only at hSw); go_simp; try (with_reducible rfl))
        try simp only [Act.put, List.setIfInBounds_toArray, List.set_cons_zero, List.set_cons_succ]
        refine wpAnyH_takeD (i := 6) (v := ?_) rfl (by kernel_rfl) (by kernel_rfl) (by kernel_rfl) (fun _ _ _ h => h) (Or.inl ⟨by kernel_rfl, ?_⟩) hS ?_
        rotate_left 1
        · (intro w' hSw; (try dsimp only at hSw); go_simp; try (with_reducible rfl))
        try simp only [Act.put, List.setIfInBounds_toArray, List.set_cons_zero, List.set_cons_succ]
        refine wpAnyH_takeD (i := 7) (v := ?_) rfl (by kernel_rfl) (by kernel_rfl) (by kernel_rfl) (fun _ _ _ h => h) (Or.inl ⟨by kernel_rfl, ?_⟩) hS ?_
        rotate_left 1
        · (intro w' hSw; (try dsimp only at hSw); go_simp; try (with_reducible rfl))
        try simp only [Act.put, List.setIfInBounds_toArray, List.set_cons_zero, List.set_cons_succ]
        refine wpAnyH_takeD (i := 8) (v := ?_) rfl (by kernel_rfl) (by kernel_rfl) (by kernel_rfl) (fun _ _ _ h => h) (Or.inl ⟨by kernel_rfl, ?_⟩) hS ?_
        rotate_left 1
        · (intro w' hSw; (try dsimp only at hSw); go_simp; try (with_reducible rfl))
        try simp only [Act.put, List.setIfInBounds_toArray, List.set_cons_zero, List.set_cons_succ]
        refine wpAnyH_takeD (i := 9) (v := ?_) rfl (by kernel_rfl) (by kernel_rfl) (by kernel_rfl) (fun _ _ _ h => h) (Or.inl ⟨by kernel_rfl, ?_⟩) hS ?_
        rotate_left 1
        · (intro w' hSw; (try dsimp only at hSw); go_simp; try (with_reducible rfl))
        try simp only [Act.put, List.setIfInBounds_toArray, List.set_cons_zero, List.set_cons_succ]
        refine wpAnyH_takeD (i := 10) (v := ?_) rfl (by kernel_rfl) (by kernel_rfl) (by kernel_rfl) (fun _ _ _ h => h) (Or.inl ⟨by kernel_rfl, ?_⟩) hS ?_
        rotate_left 1
        · (intro w' hSw; (try dsimp only at hSw); go_simp; try (with_reducible rfl))
        try simp only [Act.put, List.setIfInBounds_toArray, List.set_cons_zero, List.set_cons_succ]
        refine wpAnyH_takeD (i := 11) (v := ?_) rfl (by kernel_rfl) (by kernel_rfl) (by kernel_rfl) (fun _ _ _ h => h) (Or.inl ⟨by kernel_rfl, ?_⟩) hS ?_
        rotate_left 1
        · (intro w' hSw; (try dsimp only at hSw); go_simp; try (with_reducible rfl))
        try simp only [Act.put, List.setIfInBounds_toArray, List.set_cons_zero, List.set_cons_succ]
        refine wpAnyH_takeD (i := 12) (v := ?_) rfl (by kernel_rfl) (by kernel_rfl) (by kernel_rfl) (fun _ _ _ h => h) (Or.inl ⟨by kernel_rfl, ?_⟩) hS ?_
        rotate_left 1
        · (intro w' hSw; (try dsimp only at hSw); go_simp; try (with_reducible rfl))
        try simp only [Act.put, List.setIfInBounds_toArray, List.set_cons_zero, List.set_cons_succ]
        refine wpAnyH_oneD (i := 13) rfl (by kernel_rfl) (fun K hK => ?_)
        go_simp
        refine Calls.mono (HWI.out _ drew1_below3) ?_
        rintro e wy ⟨A2, cc2, rfl, hs2, hb2, hat2⟩
        have y0 := (hb2.cell (p := ⟨lb, lo + k * 2, none⟩) hlbr).trans c0
        have y1 := (hb2.cell (p := ⟨lb, lo + k * 2 + 1, none⟩) hlbr).trans c1
        go_wp2_with fail
        refine hK.out _ _ ⟨y0, y1⟩ (fun hS => ?_)
        clear hK
        try simp only [Act.put, List.setIfInBounds_toArray, List.set_cons_zero, List.set_cons_succ]
        refine wpAnyH_takeD (i := 14) (v := ?_) rfl (by kernel_rfl) (by kernel_rfl) (by kernel_rfl) (fun _ _ _ h => h) (Or.inl ⟨by kernel_rfl, ?_⟩) hS ?_
        rotate_left 1
        · (intro w' hSw; (try dsimp only at hSw); go_simp; try (with_reducible rfl))
        try simp only [Act.put, List.setIfInBounds_toArray, List.set_cons_zero, List.set_cons_succ]
        refine wpAnyH_takeD (i := 15) (v := ?_) rfl (by kernel_rfl) (by kernel_rfl) (by kernel_rfl) (fun _ _ _ h => h) (Or.inl ⟨by kernel_rfl, ?_⟩) hS ?_
        rotate_left 1
        · (intro w' hSw; (try dsimp only at hSw); go_simp; try (with_reducible rfl))
        try simp only [Act.put, List.setIfInBounds_toArray, List.set_cons_zero, List.set_cons_succ]
        refine wpAnyH_takeD (i := 16) (v := ?_) rfl (by kernel_rfl) (by kernel_rfl) (by kernel_rfl) (fun _ _ _ h => h) (Or.inl ⟨by kernel_rfl, ?_⟩) hS ?_
        rotate_left 1
        · (intro w' hSw; (try dsimp only at hSw); go_simp; try (with_reducible rfl))
        try simp only [Act.put, List.setIfInBounds_toArray, List.set_cons_zero, List.set_cons_succ]
        refine wpAnyH_takeD (i := 17) (v := ?_) rfl (by kernel_rfl) (by kernel_rfl) (by kernel_rfl) (fun _ _ _ h => h) (Or.inl ⟨by kernel_rfl, ?_⟩) hS ?_
        rotate_left 1
        · (intro w' hSw; (try dsimp only at hSw); go_simp; try (with_reducible rfl))
        try simp only [Act.put, List.setIfInBounds_toArray, List.set_cons_zero, List.set_cons_succ]
        refine wpAnyH_takeD (i := 18) (v := ?_) rfl (by kernel_rfl) (by kernel_rfl) (by kernel_rfl) (fun _ _ _ h => h) (Or.inl ⟨by kernel_rfl, ?_⟩) hS ?_
        rotate_left 1
        · (intro w' hSw; (try dsimp only at hSw); go_simp; try (with_reducible rfl))
        try simp only [Act.put, List.setIfInBounds_toArray, List.set_cons_zero, List.set_cons_succ]
        refine wpAnyH_done (by kernel_rfl) ?_ _
        have hbqy : Below wq.heap.size wq wy := ⟨hb2.os, hb2.tape, hb2.output, hb2.size, hb2.block⟩
        have hbwy := hbwq.trans (hbqy.mono hbwq.size)
        have HP := Lib.hid (HPUT.out _ hbqy)
        have hq2 : ∀ b o, A2 = some ⟨b, o, none⟩ → b ≠ w.heap.size := fun b o e => by
          rcases hat2 with h | ⟨g', h, h'⟩
          · exact hapart b o (h ▸ e)
          · rw [h] at e; injection e with e; injection e with e
            have := hSq.lt.2
            have h'' : wq.heap.size ≤ g' := h'
            omega
        clear hb2 hat2 HWI HPUT hsq hSq hS
        go_wp2_with fail
        refine Calls.mono HP.out ?_
        rintro e wp ⟨rfl, hSp, htp⟩
        have p0 := (htp.cell (p := ⟨lb, lo + k * 2, none⟩) (Nat.lt_of_lt_of_le hlbr hbqy.size) (fun e => by have e : lb = w.heap.size := e; omega)).trans y0
        go_wp2
        go_roundw
        case rel => exact ⟨k + 1, X2, x2, A2, cc2, by omega, by go_num, rfl, hSp, HSW2.out, (sl_apart hs2 (Nat.le_refl _) htp hq2).up htp.size, hq2, hbwy.trans (htp.below hbwy.size (fun j hj e => by omega))⟩
        case measure => simp [intOf]; omega
      · rw [m3] at t3
        have HWI := Lib.hid (fun (w' : World) (hb' : Below wq.heap.size wq w') => rWith_any Ax n cx x nn false w' ((hsq.below hb' (Nat.le_refl _)).up hb'.size) HL.out.symm (by omega))
        have hput := fun (w' : World) (hb' : Below wq.heap.size wq w') => bdropI_any (w.heap.size + 1) w.heap.size n X nn w' (hSq.below hb')
        rw [← did0 hSW nn] at hput
        have HSW2 := Lib.hid (hSW.with0 hX64 nn)
        have HPUT := Lib.hid hput
        clear hput
        generalize didL n x nn false = dd at *
        generalize withL n x nn false = x2 at *
        generalize dropI n X nn = X2 at *
        go_wp2_with fail
        refine wp_region_held_drew (S := fun w' => w'.cell? ⟨lb, lo + k * 2, none⟩ = some (.int .u8 kd) ∧ w'.cell? ⟨lb, lo + k * 2 + 1, none⟩ = some (.int .i64 nn)) (by kernel_rfl) ⟨c0, c1⟩ (fun hS => ?_)
        refine wpAnyH_takeD (i := 0) (v := ?_) rfl (by kernel_rfl) (by kernel_rfl) (by kernel_rfl) (fun _ _ _ h => h) (Or.inl ⟨by kernel_rfl, ?_⟩) hS ?_
        rotate_left 1
        · (intro w' hSw; (try dsimp only at hSw); go_simp; try (with_reducible rfl))
        try simp only [Act.put, List.setIfInBounds_toArray, List.set_cons_zero, List.set_cons_succ]
        refine wpAnyH_takeD (i := 1) (v := ?_) rfl (by kernel_rfl) (by kernel_rfl) (by kernel_rfl) (fun _ _ _ h => h) (Or.inl ⟨by kernel_rfl, ?_⟩) hS ?_
        rotate_left 1
        · (intro w' hSw; (try dsimp only at hSw); go_simp; try (with_reducible rfl))
        try simp only [Act.put, List.setIfInBounds_toArray, List.set_cons_zero, List.set_cons_succ]
        refine wpAnyH_takeD (i := 2) (v := ?_) rfl (by kernel_rfl) (by kernel_rfl) (by kernel_rfl) (fun _ _ _ h => h) (Or.inl ⟨by kernel_rfl, ?_⟩) hS ?_
        rotate_left 1
        · (intro w' hSw; (try dsimp only at hSw); go_simp; try (with_reducible rfl))
        try simp only [Act.put, List.setIfInBounds_toArray, List.set_cons_zero, List.set_cons_succ]
        refine wpAnyH_takeD (i := 3) (v := ?_) rfl (by kernel_rfl) (by kernel_rfl) (by kernel_rfl) (fun _ _ _ h => h) (Or.inl ⟨by kernel_rfl, ?_⟩) hS ?_
        rotate_left 1
        · (intro w' hSw; (try dsimp only at hSw); go_simp; try (with_reducible rfl))
        try simp only [Act.put, List.setIfInBounds_toArray, List.set_cons_zero, List.set_cons_succ]
        refine wpAnyH_takeD (i := 4) (v := ?_) rfl (by kernel_rfl) (by kernel_rfl) (by kernel_rfl) (fun _ _ _ h => h) (Or.inl ⟨by kernel_rfl, ?_⟩) hS ?_
        rotate_left 1
        · (intro w' hSw; (try dsimp only at hSw); go_simp; try (with_reducible rfl))
        try simp only [Act.put, List.setIfInBounds_toArray, List.set_cons_zero, List.set_cons_succ]
        refine wpAnyH_takeD (i := 5) (v := ?_) rfl (by kernel_rfl) (by kernel_rfl) (by kernel_rfl) (fun _ _ _ h => h) (Or.inl ⟨by kernel_rfl, ?_⟩) hS ?_
        rotate_left 1
        · (intro w' hSw; (try dsimp only at hSw); go_simp; try (with_reducible rfl))
        try simp only [Act.put, List.setIfInBounds_toArray, List.set_cons_zero, List.set_cons_succ]
        refine wpAnyH_takeD (i := 6) (v := ?_) rfl (by kernel_rfl) (by kernel_rfl) (by kernel_rfl) (fun _ _ _ h => h) (Or.inl ⟨by kernel_rfl, ?_⟩) hS ?_
        rotate_left 1
        · (intro w' hSw; (try dsimp only at hSw); go_simp; try (with_reducible rfl))
        try simp only [Act.put, List.setIfInBounds_toArray, List.set_cons_zero, List.set_cons_succ]
        refine wpAnyH_takeD (i := 7) (v := ?_) rfl (by kernel_rfl) (by kernel_rfl) (by kernel_rfl) (fun _ _ _ h => h) (Or.inl ⟨by kernel_rfl, ?_⟩) hS ?_
        rotate_left 1
        · (intro w' hSw; (try dsimp only at hSw); go_simp; try (with_reducible rfl))
        try simp only [Act.put, List.setIfInBounds_toArray, List.set_cons_zero, List.set_cons_succ]
        refine wpAnyH_takeD (i := 8) (v := ?_) rfl (by kernel_rfl) (by kernel_rfl) (by kernel_rfl) (fun _ _ _ h => h) (Or.inl ⟨by kernel_rfl, ?_⟩) hS ?_
        rotate_left 1
        · (intro w' hSw; (try dsimp only at hSw); go_simp; try (with_reducible rfl))
        try simp only [Act.put, List.setIfInBounds_toArray, List.set_cons_zero, List.set_cons_succ]
        refine wpAnyH_takeD (i := 9) (v := ?_) rfl (by kernel_rfl) (by kernel_rfl) (by kernel_rfl) (fun _ _ _ h => h) (Or.inl ⟨by kernel_rfl, ?_⟩) hS ?_
        rotate_left 1
        · (intro w' hSw; (try dsimp only at hSw); go_simp; try (with_reducible rfl))
        try simp only [Act.put, List.setIfInBounds_toArray, List.set_cons_zero, List.set_cons_succ]
        refine wpAnyH_takeD (i := 10) (v := ?_) rfl (by kernel_rfl) (by kernel_rfl) (by kernel_rfl) (fun _ _ _ h => h) (Or.inl ⟨by kernel_rfl, ?_⟩) hS ?_
        rotate_left 1
        · (intro w' hSw; (try dsimp only at hSw); go_simp; try (with_reducible rfl))
        try simp only [Act.put, List.setIfInBounds_toArray, List.set_cons_zero, List.set_cons_succ]
        refine wpAnyH_takeD (i := 11) (v := ?_) rfl (by kernel_rfl) (by kernel_rfl) (by kernel_rfl) (fun _ _ _ h => h) (Or.inl ⟨by kernel_rfl, ?_⟩) hS ?_
        rotate_left 1
        · (intro w' hSw; (try dsimp only at hSw); go_simp; try (with_reducible rfl))
        try simp only [Act.put, List.setIfInBounds_toArray, List.set_cons_zero, List.set_cons_succ]
        refine wpAnyH_takeD (i := 12) (v := ?_) rfl (by kernel_rfl) (by kernel_rfl) (by kernel_rfl) (fun _ _ _ h => h) (Or.inl ⟨by kernel_rfl, ?_⟩) hS ?_
        rotate_left 1
        · (intro w' hSw; (try dsimp only at hSw); go_simp; try (with_reducible rfl))
        try simp only [Act.put, List.setIfInBounds_toArray, List.set_cons_zero, List.set_cons_succ]
        refine wpAnyH_oneD (i := 13) rfl (by kernel_rfl) (fun K hK => ?_)
        go_simp
        refine Calls.mono (HWI.out _ drew1_below3) ?_
        rintro e wy ⟨A2, cc2, rfl, hs2, hb2, hat2⟩
        have y0 := (hb2.cell (p := ⟨lb, lo + k * 2, none⟩) hlbr).trans c0
        have y1 := (hb2.cell (p := ⟨lb, lo + k * 2 + 1, none⟩) hlbr).trans c1
        go_wp2_with fail
        refine hK.out _ _ ⟨y0, y1⟩ (fun hS => ?_)
        clear hK
        try simp only [Act.put, List.setIfInBounds_toArray, List.set_cons_zero, List.set_cons_succ]
        refine wpAnyH_takeD (i := 14) (v := ?_) rfl (by kernel_rfl) (by kernel_rfl) (by kernel_rfl) (fun _ _ _ h => h) (Or.inl ⟨by kernel_rfl, ?_⟩) hS ?_
        rotate_left 1
        · (intro w' hSw; (try dsimp only at hSw); go_simp; try (with_reducible rfl))
        try simp only [Act.put, List.setIfInBounds_toArray, List.set_cons_zero, List.set_cons_succ]
        refine wpAnyH_takeD (i := 15) (v := ?_) rfl (by kernel_rfl) (by kernel_rfl) (by kernel_rfl) (fun _ _ _ h => h) (Or.inl ⟨by kernel_rfl, ?_⟩) hS ?_
        rotate_left 1
        · (intro w' hSw; (try dsimp only at hSw); go_simp; try (with_reducible rfl))
        try simp only [Act.put, List.setIfInBounds_toArray, List.set_cons_zero, List.set_cons_succ]
        refine wpAnyH_takeD (i := 16) (v := ?_) rfl (by kernel_rfl) (by kernel_rfl) (by kernel_rfl) (fun _ _ _ h => h) (Or.inl ⟨by kernel_rfl, ?_⟩) hS ?_
        rotate_left 1
        · (intro w' hSw; (try dsimp only at hSw); go_simp; try (with_reducible rfl))
        try simp only [Act.put, List.setIfInBounds_toArray, List.set_cons_zero, List.set_cons_succ]
        refine wpAnyH_takeD (i := 17) (v := ?_) rfl (by kernel_rfl) (by kernel_rfl) (by kernel_rfl) (fun _ _ _ h => h) (Or.inl ⟨by kernel_rfl, ?_⟩) hS ?_
        rotate_left 1
        · (intro w' hSw; (try dsimp only at hSw); go_simp; try (with_reducible rfl))
        try simp only [Act.put, List.setIfInBounds_toArray, List.set_cons_zero, List.set_cons_succ]
        refine wpAnyH_takeD (i := 18) (v := ?_) rfl (by kernel_rfl) (by kernel_rfl) (by kernel_rfl) (fun _ _ _ h => h) (Or.inl ⟨by kernel_rfl, ?_⟩) hS ?_
        rotate_left 1
        · (intro w' hSw; (try dsimp only at hSw); go_simp; try (with_reducible rfl))
        try simp only [Act.put, List.setIfInBounds_toArray, List.set_cons_zero, List.set_cons_succ]
        refine wpAnyH_done (by kernel_rfl) ?_ _
        have hbqy : Below wq.heap.size wq wy := ⟨hb2.os, hb2.tape, hb2.output, hb2.size, hb2.block⟩
        have hbwy := hbwq.trans (hbqy.mono hbwq.size)
        have HP := Lib.hid (HPUT.out _ hbqy)
        have hq2 : ∀ b o, A2 = some ⟨b, o, none⟩ → b ≠ w.heap.size := fun b o e => by
          rcases hat2 with h | ⟨g', h, h'⟩
          · exact hapart b o (h ▸ e)
          · rw [h] at e; injection e with e; injection e with e
            have := hSq.lt.2
            have h'' : wq.heap.size ≤ g' := h'
            omega
        clear hb2 hat2 HWI HPUT hsq hSq hS
        go_wp2_with fail
        refine Calls.mono HP.out ?_
        rintro e wp ⟨rfl, hSp, htp⟩
        go_wp2
        go_roundw
        case rel => exact ⟨k + 1, X2, x2, A2, cc2, by omega, by go_num, rfl, hSp, HSW2.out, (sl_apart hs2 (Nat.le_refl _) htp hq2).up htp.size, hq2, hbwy.trans (htp.below hbwy.size (fun j hj e => by omega))⟩
        case measure => simp [intOf]; omega
      · rw [m3] at t3
        go_wp2
        go_roundw
        case rel => exact ⟨k + 1, X, x, Ax, cx, by omega, by go_num, rfl, hSq, hSW, hsq, hapart, hbwq⟩
        case measure => simp [intOf]; omega
    · have hk' : k = m := by omega
      have hlt' : ¬ (k : Int) < (m : Int) := by omega
      have HI := Lib.hid (is_any (w.heap.size + 1) w.heap.size n X x Ax cx wr wr.heap.size hS hSW hsx (Nat.le_refl _) (by omega) (Nat.lt_of_lt_of_le hg hb.size) (HTAB.out wr hb))
      clear hS hSW hsx hapart hk'
      go_wp2_with fail
      refine Calls.mono HI.out ?_
      rintro e wi ⟨rfl, hbi⟩
      have hbwi := hb.trans (hbi.mono hb.size)
      go_wp2_with fail
      refine (bawake_any _).mono ?_
      rintro e wz ⟨rfl, hbz⟩
      go_wp2
      go_ret
      exact ⟨rfl, hbwi.trans (hbz.mono hbwi.size)⟩
theorem BitsPlays_any (n : Int) (A : Option Addr) (m c : Nat) (l : List Nd) (w : World) (hm : m = l.length) (hs : Sl w w.heap.size 2 A m c (ocells l)) (hok : ∀ x ∈ l, OpOk x) (hg : 0 < w.heap.size) (hT : TabAt 0 Lib.deBruijn64tab w) :
    Calls Tryd.prog 4 #[.int .i64 n, .slice A m c] w (Tru w true) := by
  by_cases h0 : n < 0 ∨ 65536 < n
  · exact playsNo n A m c w h0
  obtain ⟨n, rfl⟩ := Int.eq_ofNat_of_zero_le (show 0 ≤ n by omega)
  by_cases h1 : 300 < n
  · exact playsBig n A m c w ⟨h1, by omega⟩
  by_cases h2 : 100 < m
  · exact playsLong n A m c w ⟨by omega, h2⟩
  exact playsYes n A m c l w (by omega) hm (by omega) hs hok hg hT
end Go.Proofs.YtikhlcdgibnolaaDoor
