/- The walks of layer 3's reference: Each, Ones, All, New, Has. -/
import Derived.Test.YtikhlcdgibnolaaDoorTzQ
import Derived.Test.YtikhlcdgibnolaaDoorMd
namespace Go.Proofs.YtikhlcdgibnolaaDoor
open Go.RowKit

def natI (l : List Nat) : List Int := l.map (fun (i : Nat) => (i : Int))
theorem natI_len (l : List Nat) : (natI l).length = l.length := by simp [natI]
theorem natI_snoc (l : List Nat) (i : Nat) : natI (l ++ [i]) = natI l ++ [(i : Int)] := by simp [natI]
theorem bits_len (x k : Nat) : ((List.range k).filter x.testBit).length ≤ k := by
  have := List.length_filter_le x.testBit (List.range k)
  simpa using this
theorem half_bit (x k : Nat) : ((x / 2 ^ k : Nat) : Int) % 2 = 1 ↔ x.testBit k = true := by
  rw [Nat.testBit_eq_decide_div_mod_eq]
  simp only [decide_eq_true_eq]
  omega

set_option maxHeartbeats 1000000 in
theorem rEach_any (x : Nat) (w : World) (hx : x < 2 ^ 64) :
    Calls Tryd.prog 9 #[.int .u64 (x : Int)] w (NewRow w 3 1 (bitsL x).length (icells (natI (bitsL x))) (bitsL x = [])) := by
  have h0 : x / 2 ^ 0 = x := by simp
  have H0 := Lib.hid h0
  clear h0
  go_enter Tryd.func9, Tryd.ntmps9
  go_wp2
  go_loopw [0, 3, 4] (fun u v i wr => ∃ k y : Nat, k ≤ 64 ∧ i = .int .i64 k ∧ u = .int .u64 (y : Int) ∧ Hid (y = x / 2 ^ k) ∧ y < 18446744073709551616 ∧ wr.ownsRow w.heap.size 3 1 v ((List.range k).filter x.testBit).length (icells (natI ((List.range k).filter x.testBit))) ∧ Below w.heap.size w wr ∧ (v = .slice none 0 0 ↔ (List.range k).filter x.testBit = [])) (fun _ _ i _ => 64 - (intOf i).toNat)
  case atStart => exact ⟨0, x, by omega, rfl, rfl, H0.out.symm, by omega, by simpa [icells, natI] using World.ownsRow_nil _ _ _ _, Below.refl _ _, by simp⟩
  case round =>
    obtain ⟨k, y, hk, rfl, rfl, hy, hy64, hown, hbel, hnil⟩ := hrel
    by_cases hlt : k < 64
    · have hy2 : y / 2 = x / 2 ^ (k + 1) := by rw [hy.out, Nat.div_div_eq_div_mul, Nat.pow_succ]
      have hb := half_bit x k
      rw [← hy.out] at hb
      have hsn := bitsL_snoc x k
      have hln := bits_len x k
      have HY2 := Lib.hid hy2
      have HSN := Lib.hid hsn
      have hlt' : (k : Int) < 64 := by omega
      clear hy2 hsn hy
      by_cases ht : x.testBit k = true
      · have hd : ((y : Int) % 2 == 1) = true := by simpa using hb.2 ht
        have HT := Lib.hid ht
        generalize (List.range k).filter x.testBit = L at *
        have HNL := Lib.hid hnil
        clear hb ht hnil
        go_wp2_with (at_builtin; refine wpList_push rfl (.tmp 12) (.tmp 14) 26 rfl w.heap.size 3 1 8 sliceInt _ _ _ (hown.alloc _) rfl wr.heap.size #[.int .i64 (k : Int)] rfl (heap_alloc_new wr _) rfl (by simp [Value.oneCell']) (by omega) (by omega) (by have := hbel.size; simp; omega) ?_; intro v3 w3 hown3 ht3 hat3 hne3)
        go_roundw
        case rel =>
          refine ⟨k + 1, y / 2, by omega, by go_num, by go_num, HY2.out, by omega, ?_, ?_, ?_⟩
          · rw [HSN.out, if_pos HT.out, natI_snoc, icells_append, List.length_append]; exact hown3
          · exact (hbel.alloc hbel.size _).trans (ht3.below (by have := hbel.size; simp; omega) (fun g hg hh => by have := (hown.lt g hh).1; omega))
          · rw [HSN.out, if_pos HT.out]; simp [hne3]
        case measure => simp [intOf]; omega
      · have hd : ((y : Int) % 2 == 1) = false := beq_eq_false_iff_ne.2 (fun h => ht (hb.1 h))
        have HT := Lib.hid ht
        generalize (List.range k).filter x.testBit = L at *
        have HNL := Lib.hid hnil
        clear hb ht hnil
        go_wp2
        go_roundw
        case rel =>
          refine ⟨k + 1, y / 2, by omega, by go_num, by go_num, HY2.out, by omega, ?_, hbel, ?_⟩
          · rw [HSN.out, if_neg HT.out, List.append_nil]; exact hown
          · rw [HSN.out, if_neg HT.out, List.append_nil]; exact HNL.out
        case measure => simp [intOf]; omega
    · have hk' : k = 64 := by omega
      subst hk'
      have HNL := Lib.hid hnil
      clear hnil
      go_wp2
      go_ret
      exact ⟨_, rfl, hown, hbel, HNL.out⟩

set_option maxHeartbeats 400000 in
theorem rOnes_any (x : Nat) (w : World) (hx : x < 2 ^ 64) : Calls Tryd.prog 11 #[.int .u64 (x : Int)] w (Num w ((bitsL x).length : Int)) := by
  go_enter Tryd.func11, Tryd.ntmps11
  go_wp2_with fail
  refine (rEach_any x w hx).mono ?_
  rintro e w1 ⟨v, rfl, hown, hb, _⟩
  obtain ⟨A, c, rfl, hs⟩ := own_sl hown
  clear hown
  go_wp2
  go_ret
  exact ⟨rfl, hb⟩

def bcells (l : List Bool) : List Value := l.map Value.bool
theorem bcells_len (l : List Bool) : (bcells l).length = l.length := by simp [bcells]
theorem bcells_at {l : List Bool} {i : Nat} (h : i < l.length) : (bcells l)[i]? = some (.bool (l.getD i false)) := by simp [bcells, List.getD, h]
theorem filter_snoc (p : Nat → Bool) (k : Nat) : (List.range (k + 1)).filter p = (List.range k).filter p ++ (if p k then [k] else []) := by
  rw [List.range_succ, List.filter_append]
  congr 1
  by_cases h : p k = true
  · simp [h]
  · simp [h]
theorem filter_le (p : Nat → Bool) (k : Nat) : ((List.range k).filter p).length ≤ k := by
  have := List.length_filter_le p (List.range k)
  simpa using this
set_option maxHeartbeats 1000000 in
theorem rAll_any (A : Option Addr) (n c : Nat) (x : List Bool) (w : World) (B : Nat) (hs : Sl w B 1 A n c (bcells x)) (hB : B ≤ w.heap.size) (hn : n = x.length) (hl : n ≤ 1000000) :
    Calls Tryd.prog 24 #[.slice A n c] w (NewRow w 3 1 (allL x).length (icells (natI (allL x))) (allL x = [])) := by
  have hall : allL x = (List.range n).filter (fun i => x.getD i false) := by rw [hn]; rfl
  have HA := Lib.hid hall
  have HN := Lib.hid hn
  clear hall hn
  go_enter Tryd.func24, Tryd.ntmps24
  go_wp2
  go_loopw [3, 4] (fun v i wr => ∃ k : Nat, k ≤ n ∧ i = .int .i64 k ∧ wr.ownsRow w.heap.size 3 1 v ((List.range k).filter (fun i => x.getD i false)).length (icells (natI ((List.range k).filter (fun i => x.getD i false)))) ∧ Below w.heap.size w wr ∧ (v = .slice none 0 0 ↔ (List.range k).filter (fun i => x.getD i false) = [])) (fun _ i _ => n - (intOf i).toNat)
  case atStart => exact ⟨0, by omega, rfl, by simpa [icells, natI] using World.ownsRow_nil _ _ _ _, Below.refl _ _, by simp⟩
  case round =>
    obtain ⟨k, hk, rfl, hown, hbel, hnil⟩ := hrel
    by_cases hlt : k < n
    · have hkx : k < x.length := by rw [← HN.out]; exact hlt
      obtain ⟨b, o, rfl, hbB, hc⟩ := hs.rd.at_ (bcells_at hkx)
      have hc' := (hbel.cell (p := ⟨b, o + k, none⟩) (by show b < _; omega)).trans hc
      have hsn := filter_snoc (fun i => x.getD i false) k
      have hln := filter_le (fun i => x.getD i false) k
      have hlt' : (k : Int) < (n : Int) := by omega
      have HS := Lib.hid hs
      clear hs hc
      generalize (List.range k).filter (fun i => x.getD i false) = L at *
      generalize hxk : x.getD k false = y at *
      have HSN := Lib.hid hsn
      have HNL := Lib.hid hnil
      clear hsn hnil hxk
      cases y
      · go_wp2
        go_roundw
        case rel =>
          refine ⟨k + 1, by omega, by go_num, ?_, hbel, ?_⟩
          · rw [HSN.out]; simpa using hown
          · rw [HSN.out]; simpa using HNL.out
        case measure => simp [intOf]; omega
      · go_wp2_with (at_builtin; refine wpList_push rfl (.tmp 15) (.tmp 17) 26 rfl w.heap.size 3 1 8 sliceInt _ _ _ (hown.alloc _) rfl wr.heap.size #[.int .i64 (k : Int)] rfl (heap_alloc_new wr _) rfl (by simp [Value.oneCell']) (by omega) (by omega) (by have := hbel.size; simp; omega) ?_; intro v3 w3 hown3 ht3 hat3 hne3)
        go_roundw
        case rel =>
          refine ⟨k + 1, by omega, by go_num, ?_, ?_, ?_⟩
          · rw [HSN.out, if_pos rfl, natI_snoc, icells_append, List.length_append]; exact hown3
          · exact (hbel.alloc hbel.size _).trans (ht3.below (by have := hbel.size; simp; omega) (fun g hg hh => by have := (hown.lt g hh).1; omega))
          · rw [HSN.out, if_pos rfl]; simp [hne3]
        case measure => simp [intOf]; omega
    · have hk' : k = n := by omega
      subst hk'
      have HNL := Lib.hid hnil
      clear hnil
      go_wp2
      go_ret
      exact ⟨_, rfl, by rw [HA.out]; exact hown, hbel, by rw [HA.out]; exact HNL.out⟩

theorem infoBool : (Tryd.prog.info? 4).map (fun i => (i.zero, i.size, i.bytes)) = some (some (.bool false), 1, 1) := by kernel_rfl
theorem sliceBool : SliceT Tryd.prog 34 4 1 1 :=
  SliceT.mk (z := .bool false) Tryd.underlying34 (by kernel_rfl) (by decide) (by decide)
/-- A row of bools of its own, and true. -/
def RowB (w : World) (n : Nat) (x : List Bool) (en : Ending) (w' : World) : Prop :=
  ∃ g, en = .returned (.tuple #[.slice (some ⟨g, 0, none⟩) n n, .bool true]) ∧ w'.ownsRow w.heap.size 4 1 (.slice (some ⟨g, 0, none⟩) n n) n (bcells x) ∧ Below w.heap.size w w'
set_option maxHeartbeats 400000 in
theorem rNew_any (n : Nat) (w : World) (hn : n ≤ 65536) : Calls Tryd.prog 14 #[.int .i64 (n : Int)] w (RowB w n (List.replicate n false)) := by
  have hmk := run_make_row' (P := Tryd.prog) 34 4 (.bool false) 1 Tryd.underlying34 infoBool rfl .i64 .i64 n (by omega) (by omega)
  have hF0 : (w.alloc (.cells (madeCells #[.bool false] n) 4)).ownsRow w.heap.size 4 1 (.slice (some ⟨w.heap.size, 0, none⟩) n n) n (bcells (List.replicate n false)) := by
    have := own_made (w := w) (base := w.heap.size) (e := 4) (n := n) (v := .bool false) (Nat.le_refl _) (by unfold maxLen; omega)
    simpa [bcells] using this
  have HF0 := Lib.hid hF0
  clear hF0
  have h1 : decide ((65536 : Int) < (n : Int)) = false := by simp; omega
  go_enter Tryd.func14, Tryd.ntmps14
  go_wp2
  go_ret2
  exact ⟨_, rfl, HF0.out, (Below.refl _ _).alloc (Nat.le_refl _) _⟩
set_option maxHeartbeats 400000 in
theorem rNewNil_any (n : Int) (w : World) (h : n < 0 ∨ 65536 < n) : Calls Tryd.prog 14 #[.int .i64 n] w fun e w' => e = .returned (.tuple #[.slice none 0 0, .bool false]) ∧ w' = w := by
  by_cases h0 : n < 0
  · have d0 : decide (n < 0) = true := by simpa using h0
    clear h h0
    go_enter Tryd.func14, Tryd.ntmps14
    go_wp2
    go_ret2
    exact ⟨rfl, rfl⟩
  · have d0 : decide (n < 0) = false := by simpa using h0
    have d1 : decide (65536 < n) = true := by simp; omega
    clear h h0
    go_enter Tryd.func14, Tryd.ntmps14
    go_wp2
    go_ret2
    exact ⟨rfl, rfl⟩

/-- The reference's Has. -/
def hasL (n : Nat) (x : List Bool) (i : Int) : Bool := inB n i && x.getD i.toNat false
set_option maxHeartbeats 1000000 in
theorem rHas_any (A : Option Addr) (n c : Nat) (x : List Bool) (i : Int) (w : World) (B : Nat) (hs : Sl w B 1 A n c (bcells x)) (hn : n = x.length) :
    Calls Tryd.prog 17 #[.slice A n c, .int .i64 i] w fun e w' => e = .returned (.bool (hasL n x i)) ∧ w' = w := by
  by_cases h0 : 0 ≤ i
  · have d0 : decide (0 ≤ i) = true := by simpa using h0
    by_cases h1 : i < (n : Int)
    · have d1 : decide (i < (n : Int)) = true := by simpa using h1
      obtain ⟨i, rfl⟩ := Int.eq_ofNat_of_zero_le h0
      have hin : i < x.length := by omega
      obtain ⟨b, o, rfl, hbB, hc⟩ := hs.rd.at_ (bcells_at hin)
      have hr : hasL n x (i : Int) = x.getD i false := by simp only [hasL, inB, d0, d1, Bool.true_and, Int.toNat_natCast]
      have HR := Lib.hid hr
      generalize x.getD i false = y at *
      clear hr hs hn hin d0
      go_enter Tryd.func17, Tryd.ntmps17
      go_wp2
      go_ret
      exact ⟨ret_bool HR.out.symm, rfl⟩
    · have d1 : decide (i < (n : Int)) = false := by simpa using h1
      have hr : hasL n x i = false := by simp only [hasL, inB, d0, d1, Bool.true_and, Bool.false_and]
      have HR := Lib.hid hr
      clear hr hs hn
      go_enter Tryd.func17, Tryd.ntmps17
      go_wp2
      go_ret
      exact ⟨ret_bool HR.out.symm, rfl⟩
  · have d0 : decide (0 ≤ i) = false := by simpa using h0
    have hr : hasL n x i = false := by simp only [hasL, inB, d0, Bool.false_and]
    have HR := Lib.hid hr
    clear hr hs hn
    go_enter Tryd.func17, Tryd.ntmps17
    go_wp2
    go_ret
    exact ⟨ret_bool HR.out.symm, rfl⟩
end Go.Proofs.YtikhlcdgibnolaaDoor
