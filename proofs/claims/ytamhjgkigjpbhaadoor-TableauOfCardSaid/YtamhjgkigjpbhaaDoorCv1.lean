/- The walks of layer 28 (cover): Clone of bools, places, bits. -/
import Derived.Test.YtamhjgkigjpbhaaDoorRowsB
import Derived.Test.YtamhjgkigjpbhaaDoorMh
import Derived.Test.YtamhjgkigjpbhaaDoorMd
import Derived.Test.YtamhjgkigjpbhaaDoorMa
namespace Go.Proofs.YtamhjgkigjpbhaaDoor
open Go.RowKit

def natI (l : List Nat) : List Int := l.map (fun (i : Nat) => (i : Int))
theorem natI_len (l : List Nat) : (natI l).length = l.length := by simp [natI]
theorem natI_append (l r : List Nat) : natI (l ++ r) = natI l ++ natI r := by simp [natI]
def onU (l : List Bool) (k : Nat) : List Nat := (List.range k).filter (fun i => l.getD i false)
theorem onU_end (l : List Bool) : onU l l.length = onL l := rfl
theorem onU_le (l : List Bool) (k : Nat) : (onU l k).length ≤ k := by
  have := List.length_filter_le (fun i => l.getD i false) (List.range k)
  simpa [onU] using this
theorem onU_yes {l : List Bool} {k : Nat} (h : l.getD k false = true) : onU l (k + 1) = onU l k ++ [k] := by
  unfold onU; rw [List.range_succ, List.filter_append, List.filter_cons_of_pos (by simpa using h), List.filter_nil]
theorem onU_no {l : List Bool} {k : Nat} (h : l.getD k false = false) : onU l (k + 1) = onU l k := by
  unfold onU; rw [List.range_succ, List.filter_append, List.filter_cons_of_neg (by rw [h]; decide), List.filter_nil, List.append_nil]

set_option maxHeartbeats 400000 in
theorem cloneB_any (A : Option Addr) (n c : Nat) (xs : List Value) (w : World) (B : Nat) (hs : Sl w B 1 A n c xs) (h1 : ∀ u ∈ xs, u.oneCell' = true) (hB : B ≤ w.heap.size) (hn : n ≤ 1000000000) :
    Calls Tryd.prog 76 #[.slice A n c] w (NewRow w 4 1 n xs (A = none)) := by
  have hnil := fun (w : World) (a : Option Addr) (l c : Nat) => Lib.run_eql_slice_nil (P := Tryd.prog) w 73 4 a l c 0 0 Tryd.underlying73
  rcases A with _ | ad
  · have hc : c = 0 := hs.nil rfl
    have hm : n = 0 := by have := hs.cap; omega
    subst hc; subst hm
    have hx : xs = [] := List.eq_nil_of_length_eq_zero (by rw [hs.len])
    subst hx
    go_enter Tryd.func76, Tryd.ntmps76
    go_wp2
    go_ret
    exact ⟨_, rfl, World.ownsRow_nil _ _ _ _, Below.refl _ _, by simp⟩
  · have hb0 : ∀ w : World, (w.alloc (.cells #[] 4)).ownsRow w.heap.size 4 1 (.slice (some ⟨w.heap.size, 0, none⟩) 0 0) 0 [] :=
      fun w => World.ownsRow_made w #[] 0 (Nat.le_refl _) (by unfold maxLen; omega) (by simp)
    go_enter Tryd.func76, Tryd.ntmps76
    go_wp2_with (at_builtin; refine wpList_extend rfl (.tmp 5) (.tmp 6) 73 rfl w.heap.size 4 1 1 sliceBool _ _ _ (hb0 w) rfl B (some ad) n c xs rfl (hs.below ((Below.refl w.heap.size w).alloc (Nat.le_refl _) _) hB) h1 (by omega) (by omega) (by simp) ?_; intro v1 w1 hown1 ht1 hat1 hnil1)
    go_ret
    refine ⟨v1, rfl, by simpa using hown1, ?_, by simp [hnil1]⟩
    exact ((Below.refl w.heap.size w).alloc (Nat.le_refl _) _).trans (ht1.below (by simp) (fun k hk => by simp [Value.ownBlock]; omega))

set_option maxHeartbeats 800000 in
theorem places_any (A : Option Addr) (c : Nat) (l : List Bool) (w : World) (B : Nat) (hs : Sl w B 1 A l.length c (bcells l)) (hB : B ≤ w.heap.size) (hl : l.length ≤ 1000000) :
    Calls Tryd.prog 56 #[.slice A l.length c] w (NewRow w 3 1 (onL l).length (icells (natI (onL l))) (onL l = [])) := by
  go_enter Tryd.func56, Tryd.ntmps56
  go_wp2
  go_loopw [3, 8] (fun u i wr => ∃ k : Nat, k ≤ l.length ∧ i = .int .i64 k ∧ wr.ownsRow w.heap.size 3 1 u (onU l k).length (icells (natI (onU l k))) ∧ Below w.heap.size w wr ∧ Hid (u = .slice none 0 0 ↔ onU l k = [])) (fun _ i _ => l.length - (intOf i).toNat)
  case atStart => exact ⟨0, by omega, rfl, by simpa [onU, natI, icells] using World.ownsRow_nil w w.heap.size 3 1, Below.refl _ _, by simp [Hid, onU]⟩
  case round =>
    obtain ⟨k, hk, rfl, hu, hbr, HN⟩ := hrel
    by_cases hlt : k < l.length
    · obtain ⟨b, o, rfl, _, hc⟩ := (hs.rd.below hbr hB).at_ (bcells_at hlt)
      have hle := onU_le l k
      have hsw := hbr.size
      have hy := @onU_yes l k
      have hn := @onU_no l k
      generalize l.getD k false = y at *
      have HY := Lib.hid hy
      have HNo := Lib.hid hn
      clear hy hn
      cases y
      · go_wp2
        go_roundw
        case rel =>
          refine ⟨k + 1, by omega, by go_num, ?_, hbr, ?_⟩
          · rw [HNo.out rfl]; exact hu
          · show _ ↔ _; rw [HNo.out rfl]; exact HN.out
        case measure => simp [intOf]; omega
      · go_wp2_with (at_builtin; refine wpList_push rfl (.tmp 14) (.tmp 16) 25 rfl w.heap.size 3 1 8 sliceInt _ _ _ (hu.alloc _) rfl wr.heap.size #[.int .i64 k] rfl (heap_alloc_new wr _) rfl (by simp [Value.oneCell']) (by omega) (by omega) (by simp; omega) ?_; intro v3 w3 hown3 ht3 hat3 hne3)
        go_roundw
        case rel =>
          refine ⟨k + 1, by omega, by go_num, ?_, ?_, ?_⟩
          · rw [HY.out rfl, natI_append, icells_append, List.length_append]; exact hown3
          · exact (hbr.alloc hsw _).trans (ht3.below (by simp; omega) (fun g hg h => by have := (hu.lt g h).1; omega))
          · show _ ↔ _; rw [HY.out rfl]; simp [hne3]
        case measure => simp [intOf]; omega
    · have hkl : k = l.length := by omega
      subst hkl
      rw [onU_end] at hu HN
      go_wp2
      go_ret
      exact ⟨_, rfl, hu, hbr, HN.out⟩

/-- A bool as a byte, and bools as a text. -/
def byteB (b : Bool) : Int := if b then 1 else 0
def strB (l : List Bool) : ByteArray := strOfNums (l.map byteB)
theorem strB_inj {l m : List Bool} (h : strB l = strB m) : l = m := by
  have h1 : (strB l).data.toList = (strB m).data.toList := by rw [h]
  rw [strB, strB, strOfNums_data, strOfNums_data, List.map_map, List.map_map] at h1
  refine (List.map_inj_right (fun x y e => ?_)).1 h1
  cases x <;> cases y <;> first | rfl | (exfalso; revert e; decide)
def ycells (l : List Bool) : List Value := l.map (fun b => .int .u8 (byteB b))
theorem ycells_set {l : List Bool} {k : Nat} {b : Bool} : ycells (l.set k b) = (ycells l).set k (.int .u8 (byteB b)) := by rw [ycells, ycells, List.map_set]
theorem infoU8 : (Tryd.prog.info? 5).map (fun i => (i.zero, i.size, i.bytes)) = some (some (.int .u8 0), 1, 1) := by kernel_rfl
theorem made_bytes (n : Nat) : (madeCells (Value.int .u8 0).cells (n * 1)).toList = ycells (List.replicate n false) := by
  rw [Nat.mul_one, show (Value.int .u8 0).cells = #[.int .u8 0] from rfl, toList_madeCells_one, ycells, List.map_replicate]; rfl
theorem upto_put {n : Nat} {F : Nat → Bool} {k : Nat} (h : F k = true) : upto n F (k + 1) = (upto n F k).set k true := by
  apply List.ext_getElem
  · simp [upto]
  · intro i h1 h2
    simp only [upto, List.getElem_map, List.getElem_range, List.getElem_set]
    by_cases e : k = i
    · subst e; simp [h]
    · rw [if_neg e]
      by_cases h1 : i < k
      · rw [if_pos h1, if_pos (by omega)]
      · rw [if_neg h1, if_neg (by omega)]
theorem upto_self (l : List Bool) : upto l.length (fun i => l.getD i false) l.length = l := by
  rw [upto_end]
  apply List.ext_getElem
  · simp
  · intro i h1 h2; simp [List.getD, h2]
/-- A text, in memory that has only grown. -/
def Txt (w : World) (s : ByteArray) (en : Ending) (w' : World) : Prop := en = .returned (.string s) ∧ Below w.heap.size w w'

set_option maxHeartbeats 800000 in
theorem bitsT_any (A : Option Addr) (c : Nat) (l : List Bool) (w : World) (B : Nat) (hs : Sl w B 1 A l.length c (bcells l)) (hB : B ≤ w.heap.size) (hl : l.length ≤ 1000000) :
    Calls Tryd.prog 55 #[.slice A l.length c] w (Txt w (strB l)) := by
  obtain ⟨i0, hi, hz0, hz1, hz2⟩ := info_parts infoU8
  have HI := Lib.hid hi
  have HZ0 := Lib.hid hz0
  have HZ1 := Lib.hid hz1
  have HZ2 := Lib.hid hz2
  clear hi hz0 hz1 hz2
  obtain ⟨F, hF⟩ : ∃ F : Nat → Bool, (fun i => l.getD i false) = F := ⟨_, rfl⟩
  go_enter Tryd.func55, Tryd.ntmps55
  go_wp2_with (at_make; refine wpList_make_full _ rfl _ _ 128 rfl w.heap.size 5 i0 (.int .u8 0) 1 Tryd.underlying128 HI.out HZ0.out HZ1.out .i64 .i64 _ _ l.length rfl rfl rfl rfl (by rw [HZ2.out]; omega) (by unfold maxLen; omega) (Nat.le_refl _) ?_; intro w0 hown0 hgr0)
  have hb0 : Below w.heap.size w w0 := (Tch.of_grown hgr0).below (Nat.le_refl _) (fun g _ h => by cases h)
  rw [made_bytes, ← upto_zero l.length F] at hown0
  go_loopw [11] (fun i wi => ∃ k : Nat, k ≤ l.length ∧ i = .int .i64 k ∧ wi.ownsRow w.heap.size 5 1 (.slice (some ⟨w.heap.size, 0, none⟩) l.length l.length) l.length (ycells (upto l.length F k)) ∧ Below w.heap.size w wi) (fun i _ => l.length - (intOf i).toNat)
  case atStart => exact ⟨0, by omega, rfl, hown0, hb0⟩
  case round =>
    obtain ⟨k, hk, rfl, hown, hbel⟩ := hrel
    clear hown0 hb0 hgr0
    by_cases hlt : k < l.length
    · obtain ⟨b, o, rfl, _, hc⟩ := (hs.rd.below hbel hB).at_ (bcells_at hlt)
      have hFk : F k = l.getD k false := by rw [← hF]
      have HO := Lib.hid hown
      have hcl := hown.cellAt k (by simp; omega)
      have hfz := hown.frozenAt k
      have hst := hown.stored k (.int .u8 1)
      have hlg := hown.lt _ rfl
      rw [List.getElem?_eq_getElem (by simp [ycells, upto]; omega)] at hcl
      generalize (ycells (upto l.length F k))[k]'(by simp [ycells, upto]; omega) = u0 at hcl
      clear hown
      have HST := Lib.hid hst
      clear hst
      generalize l.getD k false = y at *
      have HF := Lib.hid hFk
      have HFF := Lib.hid hF
      clear hFk hF
      cases y
      · go_wp2
        go_roundw
        case rel => exact ⟨k + 1, by omega, by go_num, by rw [upto_false HF.out]; exact HO.out, hbel⟩
        case measure => simp [intOf]; omega
      · go_wp2
        go_roundw
        case rel =>
          refine ⟨k + 1, by omega, by go_num, ?_, hbel.setCell (p := ⟨w.heap.size, k, none⟩) hlg.1 _⟩
          rw [upto_put HF.out, ycells_set]; exact HST.out.1
        case measure => simp [intOf]; omega
    · have hkl : k = l.length := by omega
      subst hkl
      have e1 : upto l.length F l.length = l := by rw [← hF]; exact upto_self l
      rw [e1] at hown
      have hcv := run_convert_bytes_arg (P := Tryd.prog) wr 128 5 Tryd.underlying128 Tryd.underlying5 w.heap.size 0 l.length l.length (l.map byteB) (by simp) (fun i hi => by
        have := hown.cellAt i (by simp; omega)
        rw [Nat.zero_add]
        simp [ycells, hi] at this ⊢
        exact this) 9 Tryd.underlying9
      clear hown e1 hF
      go_wp2
      go_ret
      exact ⟨rfl, hbel⟩
end Go.Proofs.YtamhjgkigjpbhaaDoor
