/- Texts that stand one behind the other, in one file. -/
import Derived.Test.YtamhjgkigjpbhaaDoorCovR
import Derived.Test.YtamhjgkigjpbhaaDoorProg
import Derived.Test.YtamhjgkigjpbhaaDoorMa
import Derived.Laws.StructEq
import Derived.Test.YtamhjgkigjpbhaaDoorZad

/- How many ways there are; rising lists of numbers; plain. -/
namespace Go.Proofs.YtamhjgkigjpbhaaDoor

/-- Does a node part ways? -/
def branches (f : List Nd) (j : Nat) : Bool := decide (opAt f j = 6) || decide (opAt f j = 9) || decide (opAt f j = 10)
def brF (f : List Nd) (now : List Bool) : Nat := (List.range f.length).countP (fun j => branches f j && !now.getD j false)
theorem brF_made {f : List Nd} {w : Way} (hw : WOk f w) {j : Nat} {t : List Nat} (hs : skipL w.now w.todo = j :: t) : brF f (w.made j t).now + (if branches f j = true then 1 else 0) ≤ brF f w.now := by
  obtain ⟨hj0, hj1, _⟩ := skip_head hs
  have hj := hw.todo j hj1
  have hr : List.range f.length = List.range j ++ (j :: (List.range' (j + 1) (f.length - j - 1))) := by
    rw [List.range_eq_range', List.range_eq_range', show f.length = j + ((f.length - j - 1) + 1) by omega, ← List.range'_append_1]
    simp [List.range'_succ]
  have hget : ∀ y, y ≠ j → (w.made j t).now.getD y false = w.now.getD y false := by
    intro y hy
    simp only [Way.made]
    rw [List.getD_eq_getElem?_getD, List.getElem?_set, if_neg (fun e => hy e.symm), ← List.getD_eq_getElem?_getD]
  have hself : (w.made j t).now.getD j false = true := set_self (by rw [hw.now]; exact hj)
  unfold brF
  rw [hr, List.countP_append, List.countP_append, List.countP_cons, List.countP_cons]
  have e1 : (List.range j).countP (fun y => branches f y && !(w.made j t).now.getD y false) = (List.range j).countP (fun y => branches f y && !w.now.getD y false) :=
    List.countP_congr (fun y hy => by rw [hget y (by have := List.mem_range.1 hy; omega)])
  have e2 : (List.range' (j + 1) (f.length - j - 1)).countP (fun y => branches f y && !(w.made j t).now.getD y false) = (List.range' (j + 1) (f.length - j - 1)).countP (fun y => branches f y && !w.now.getD y false) :=
    List.countP_congr (fun y hy => by rw [hget y (by have := (List.mem_range'_1.1 hy).1; omega)])
  rw [e1, e2, hself, hj0]
  simp
  omega
theorem split_len (f : List Nd) (j : Nat) (w : Way) : (splitW f j w).length ≤ (if branches f j = true then 2 else 1) := by
  have fin : ∀ u : Way, (finW u).length ≤ 1 := fun u => by unfold finW; split <;> simp
  unfold splitW branches
  by_cases e1 : opAt f j = 1
  · rw [if_pos e1]; split <;> simp
  rw [if_neg e1]
  by_cases e3 : opAt f j = 3
  · rw [if_pos e3]; have := fin { w with need := w.need ||| 2 ^ nAt f j }; split <;> omega
  rw [if_neg e3]
  by_cases e4 : opAt f j = 4
  · rw [if_pos e4]; have := fin { w with ban := w.ban ||| 2 ^ nAt f (j - 1) }; split <;> omega
  rw [if_neg e4]
  by_cases e5 : opAt f j = 5
  · rw [if_pos e5]; split <;> simp
  rw [if_neg e5]
  by_cases e6 : opAt f j = 6
  · rw [if_pos e6, if_pos (by simp [e6])]; simp
  rw [if_neg e6]
  by_cases e8 : opAt f j = 8
  · rw [if_pos e8]; split <;> simp
  rw [if_neg e8]
  by_cases e9 : opAt f j = 9
  · rw [if_pos e9, if_pos (by simp [e9])]; simp
  rw [if_neg e9]
  by_cases e10 : opAt f j = 10
  · rw [if_pos e10, if_pos (by simp [e10])]; simp
  rw [if_neg e10]; split <;> simp
theorem leaves_len {f : List Nd} (hk : KidsOk f) : ∀ (n : Nat) (w : Way), WOk f w → (leaves f n w).length ≤ 2 ^ brF f w.now := by
  intro n
  induction n with
  | zero => intro w _; simp [leaves]
  | succ n ih =>
    intro w hw
    unfold leaves
    cases hs : skipL w.now w.todo with
    | nil => simp; exact Nat.one_le_two_pow
    | cons j t =>
      obtain ⟨hm, _, hj⟩ := made_ok hw hs
      have hb := brF_made hw hs
      have hl := split_len f j (w.made j t)
      have hall : ∀ x ∈ splitW f j (w.made j t), (leaves f n x).length ≤ 2 ^ brF f (w.made j t).now := fun x hx => by
        obtain ⟨h1, h2⟩ := split_ok hk hj hm x hx
        have := ih x h1
        rw [h2] at this
        exact this
      have hsum : ∀ L : List Way, (∀ x ∈ L, (leaves f n x).length ≤ 2 ^ brF f (w.made j t).now) → (L.flatMap (leaves f n)).length ≤ L.length * 2 ^ brF f (w.made j t).now := by
        intro L
        induction L with
        | nil => intro _; simp
        | cons x r ihr =>
          intro h
          have a := h x (by simp)
          have b := ihr (fun y hy => h y (by simp [hy]))
          rw [List.flatMap_cons, List.length_append, List.length_cons, Nat.succ_mul]
          omega
      have h1 := hsum _ hall
      show ((splitW f j (w.made j t)).flatMap (leaves f n)).length ≤ _
      by_cases hbr : branches f j = true
      · rw [if_pos hbr] at hb hl
        have h2 : (splitW f j (w.made j t)).length * 2 ^ brF f (w.made j t).now ≤ 2 * 2 ^ brF f (w.made j t).now := Nat.mul_le_mul_right _ hl
        have h3 : 2 * 2 ^ brF f (w.made j t).now = 2 ^ (brF f (w.made j t).now + 1) := by rw [Nat.pow_succ]; omega
        have h4 : 2 ^ (brF f (w.made j t).now + 1) ≤ 2 ^ brF f w.now := Nat.pow_le_pow_right (by omega) hb
        omega
      · rw [if_neg hbr] at hb hl
        have h2 : (splitW f j (w.made j t)).length * 2 ^ brF f (w.made j t).now ≤ 1 * 2 ^ brF f (w.made j t).now := Nat.mul_le_mul_right _ hl
        have h4 : 2 ^ brF f (w.made j t).now ≤ 2 ^ brF f w.now := Nat.pow_le_pow_right (by omega) (by omega)
        omega

/-- The numbers that are on, rising. -/
def onL (l : List Bool) : List Nat := (List.range l.length).filter (fun i => l.getD i false)
theorem onL_mem {l : List Bool} {i : Nat} : i ∈ onL l ↔ l.getD i false = true := by
  unfold onL
  rw [List.mem_filter, List.mem_range]
  refine ⟨fun h => h.2, fun h => ⟨?_, h⟩⟩
  by_cases hl : i < l.length
  · exact hl
  · rw [List.getD_eq_getElem?_getD, List.getElem?_eq_none (by omega)] at h; cases h
theorem onL_len (l : List Bool) : (onL l).length ≤ l.length := by
  have := List.length_filter_le (fun i => l.getD i false) (List.range l.length)
  simpa [onL] using this
end Go.Proofs.YtamhjgkigjpbhaaDoor

/- Texts of one kind, in one file. -/

/- (XSlI) The slices of numbers, as the laws on append ask. -/
namespace Go.Proofs.YtamhjgkigjpbhaaDoor
open Go.RowKit

theorem sliceInt : SliceT Tryd.prog 25 3 1 8 :=
  SliceT.mk (z := .int .i64 0) Tryd.underlying25 (by kernel_rfl) (by decide) (by decide)

end Go.Proofs.YtamhjgkigjpbhaaDoor

/- (XClI) The walk of slices.Clone at numbers. -/
namespace Go.Proofs.YtamhjgkigjpbhaaDoor
open Go.RowKit

set_option maxHeartbeats 400000 in
theorem cloneInt_any (A : Option Addr) (n c : Nat) (xs : List Value) (w : World) (B : Nat) (hs : Sl w B 1 A n c xs) (h1 : ∀ u ∈ xs, u.oneCell' = true) (hB : B ≤ w.heap.size) (hn : n ≤ 1000000000) :
    Calls Tryd.prog 57 #[.slice A n c] w (NewRow w 3 1 n xs (A = none)) := by
  have hnil := fun (w : World) (a : Option Addr) (l c : Nat) => Lib.run_eql_slice_nil (P := Tryd.prog) w 25 3 a l c 0 0 Tryd.underlying25
  rcases A with _ | ad
  · have hc : c = 0 := hs.nil rfl
    have hm : n = 0 := by have := hs.cap; omega
    subst hc; subst hm
    have hx : xs = [] := List.eq_nil_of_length_eq_zero (by rw [hs.len])
    subst hx
    go_enter Tryd.func57, Tryd.ntmps57
    go_wp2
    go_ret
    exact ⟨_, rfl, World.ownsRow_nil _ _ _ _, Below.refl _ _, by simp⟩
  · have hb0 : ∀ w : World, (w.alloc (.cells #[] 3)).ownsRow w.heap.size 3 1 (.slice (some ⟨w.heap.size, 0, none⟩) 0 0) 0 [] :=
      fun w => World.ownsRow_made w #[] 0 (Nat.le_refl _) (by unfold maxLen; omega) (by simp)
    go_enter Tryd.func57, Tryd.ntmps57
    go_wp2_with (at_builtin; refine wpList_extend rfl (.tmp 5) (.tmp 6) 25 rfl w.heap.size 3 1 8 sliceInt _ _ _ (hb0 w) rfl B (some ad) n c xs rfl (hs.below ((Below.refl w.heap.size w).alloc (Nat.le_refl _) _) hB) h1 (by omega) (by omega) (by simp) ?_; intro v1 w1 hown1 ht1 hat1 hnil1)
    go_ret
    refine ⟨v1, rfl, by simpa using hown1, ?_, by simp [hnil1]⟩
    exact ((Below.refl w.heap.size w).alloc (Nat.le_refl _) _).trans (ht1.below (by simp) (fun k hk => by simp [Value.ownBlock]; omega))
end Go.Proofs.YtamhjgkigjpbhaaDoor

/- (XNeN) Nodes held against one another. -/
namespace Go.Proofs.YtamhjgkigjpbhaaDoor
open Go.RowKit

theorem neq_nd (x y : Nd) (w : World) : (binOp .neq 47 (.agg #[.int .i64 x.op, .int .i64 x.n]) (.agg #[.int .i64 y.op, .int .i64 y.n])).run Tryd.prog w = .ok (.bool (decide (x ≠ y))) w := by
  have hS : Tryd.prog.underlying 47 = some (.struct (Tryd.prog.fieldsOf 47)) := by kernel_rfl
  have hp : Tryd.prog.stoodInHeld 47 = false := by kernel_rfl
  rw [run_neq_struct, show (10000 : Nat) = 9999 + 1 from rfl, run_equalIn_agg w 9999 _ _ _ hS hp]
  simp only [Program.fieldsOf, Tryd.underlying47]
  obtain ⟨a, b⟩ := x
  obtain ⟨c, d⟩ := y
  go_simp
  by_cases h1 : a = c <;> by_cases h2 : b = d <;> simp [h1, h2]

end Go.Proofs.YtamhjgkigjpbhaaDoor

/- (XSlU) The slices of numbers, as the laws on append ask. -/
namespace Go.Proofs.YtamhjgkigjpbhaaDoor
open Go.RowKit

theorem sliceU64 : SliceT Tryd.prog 33 41 1 8 :=
  SliceT.mk (z := .int .u64 0) Tryd.underlying33 (by kernel_rfl) (by decide) (by decide)

end Go.Proofs.YtamhjgkigjpbhaaDoor

/- The walks of layer 28 (cover): Clone of bools, places, bits. -/
namespace Go.Proofs.YtamhjgkigjpbhaaDoor
open Go.RowKit

def natI (l : List Nat) : List Int := l.map (fun (i : Nat) => (i : Int))
theorem natI_append (l r : List Nat) : natI (l ++ r) = natI l ++ natI r := by simp [natI]
def onU (l : List Bool) (k : Nat) : List Nat := (List.range k).filter (fun i => l.getD i false)
theorem onU_end (l : List Bool) : onU l l.length = onL l := rfl
theorem onU_le (l : List Bool) (k : Nat) : (onU l k).length ≤ k := by
  have := List.length_filter_le (fun i => l.getD i false) (List.range k)
  simpa [onU] using this
theorem onU_yes {l : List Bool} {k : Nat} (h : l.getD k false = true) : onU l (k + 1) = onU l k ++ [k] := by
  unfold onU; rw [List.range_succ, List.filter_append, List.filter_cons_of_pos (by simpa using h), List.filter_nil]
theorem onU_no {l : List Bool} {k : Nat} (h : l.getD k false = false) : onU l (k + 1) = onU l k := by
  unfold onU; rw [List.range_succ, List.filter_append, List.filter_cons_of_neg (by rw [h]; decide), List.filter_nil, List.append_nil]

set_option maxHeartbeats 400000 in
theorem cloneB_any (A : Option Addr) (n c : Nat) (xs : List Value) (w : World) (B : Nat) (hs : Sl w B 1 A n c xs) (h1 : ∀ u ∈ xs, u.oneCell' = true) (hB : B ≤ w.heap.size) (hn : n ≤ 1000000000) :
    Calls Tryd.prog 76 #[.slice A n c] w (NewRow w 4 1 n xs (A = none)) := by
  have hnil := fun (w : World) (a : Option Addr) (l c : Nat) => Lib.run_eql_slice_nil (P := Tryd.prog) w 73 4 a l c 0 0 Tryd.underlying73
  rcases A with _ | ad
  · have hc : c = 0 := hs.nil rfl
    have hm : n = 0 := by have := hs.cap; omega
    subst hc; subst hm
    have hx : xs = [] := List.eq_nil_of_length_eq_zero (by rw [hs.len])
    subst hx
    go_enter Tryd.func76, Tryd.ntmps76
    go_wp2
    go_ret
    exact ⟨_, rfl, World.ownsRow_nil _ _ _ _, Below.refl _ _, by simp⟩
  · have hb0 : ∀ w : World, (w.alloc (.cells #[] 4)).ownsRow w.heap.size 4 1 (.slice (some ⟨w.heap.size, 0, none⟩) 0 0) 0 [] :=
      fun w => World.ownsRow_made w #[] 0 (Nat.le_refl _) (by unfold maxLen; omega) (by simp)
    go_enter Tryd.func76, Tryd.ntmps76
    go_wp2_with (at_builtin; refine wpList_extend rfl (.tmp 5) (.tmp 6) 73 rfl w.heap.size 4 1 1 sliceBool _ _ _ (hb0 w) rfl B (some ad) n c xs rfl (hs.below ((Below.refl w.heap.size w).alloc (Nat.le_refl _) _) hB) h1 (by omega) (by omega) (by simp) ?_; intro v1 w1 hown1 ht1 hat1 hnil1)
    go_ret
    refine ⟨v1, rfl, by simpa using hown1, ?_, by simp [hnil1]⟩
    exact ((Below.refl w.heap.size w).alloc (Nat.le_refl _) _).trans (ht1.below (by simp) (fun k hk => by simp [Value.ownBlock]; omega))

set_option maxHeartbeats 800000 in
theorem places_any (A : Option Addr) (c : Nat) (l : List Bool) (w : World) (B : Nat) (hs : Sl w B 1 A l.length c (bcells l)) (hB : B ≤ w.heap.size) (hl : l.length ≤ 1000000) :
    Calls Tryd.prog 56 #[.slice A l.length c] w (NewRow w 3 1 (onL l).length (icells (natI (onL l))) (onL l = [])) := by
  go_enter Tryd.func56, Tryd.ntmps56
  go_wp2
  go_loopw [3, 8] (fun u i wr => ∃ k : Nat, k ≤ l.length ∧ i = .int .i64 k ∧ wr.ownsRow w.heap.size 3 1 u (onU l k).length (icells (natI (onU l k))) ∧ Below w.heap.size w wr ∧ Hid (u = .slice none 0 0 ↔ onU l k = [])) (fun _ i _ => l.length - (intOf i).toNat)
  case atStart => exact ⟨0, by omega, rfl, by simpa [onU, natI, icells] using World.ownsRow_nil w w.heap.size 3 1, Below.refl _ _, by simp [Hid, onU]⟩
  case round =>
    obtain ⟨k, hk, rfl, hu, hbr, HN⟩ := hrel
    by_cases hlt : k < l.length
    · obtain ⟨b, o, rfl, _, hc⟩ := (hs.rd.below hbr hB).at_ (bcells_at hlt)
      have hle := onU_le l k
      have hsw := hbr.size
      have hy := @onU_yes l k
      have hn := @onU_no l k
      generalize l.getD k false = y at *
      have HY := Lib.hid hy
      have HNo := Lib.hid hn
      clear hy hn
      cases y
      · go_wp2
        go_roundw
        case rel =>
          refine ⟨k + 1, by omega, by go_num, ?_, hbr, ?_⟩
          · rw [HNo.out rfl]; exact hu
          · show _ ↔ _; rw [HNo.out rfl]; exact HN.out
        case measure => simp [intOf]; omega
      · go_wp2_with (at_builtin; refine wpList_push rfl (.tmp 14) (.tmp 16) 25 rfl w.heap.size 3 1 8 sliceInt _ _ _ (hu.alloc _) rfl wr.heap.size #[.int .i64 k] rfl (heap_alloc_new wr _) rfl (by simp [Value.oneCell']) (by omega) (by omega) (by simp; omega) ?_; intro v3 w3 hown3 ht3 hat3 hne3)
        go_roundw
        case rel =>
          refine ⟨k + 1, by omega, by go_num, ?_, ?_, ?_⟩
          · rw [HY.out rfl, natI_append, icells_append, List.length_append]; exact hown3
          · exact (hbr.alloc hsw _).trans (ht3.below (by simp; omega) (fun g hg h => by have := (hu.lt g h).1; omega))
          · show _ ↔ _; rw [HY.out rfl]; simp [hne3]
        case measure => simp [intOf]; omega
    · have hkl : k = l.length := by omega
      subst hkl
      rw [onU_end] at hu HN
      go_wp2
      go_ret
      exact ⟨_, rfl, hu, hbr, HN.out⟩

/-- A bool as a byte, and bools as a text. -/
def byteB (b : Bool) : Int := if b then 1 else 0
def strB (l : List Bool) : ByteArray := strOfNums (l.map byteB)
theorem strB_inj {l m : List Bool} (h : strB l = strB m) : l = m := by
  have h1 : (strB l).data.toList = (strB m).data.toList := by rw [h]
  rw [strB, strB, strOfNums_data, strOfNums_data, List.map_map, List.map_map] at h1
  refine (List.map_inj_right (fun x y e => ?_)).1 h1
  cases x <;> cases y <;> first | rfl | (exfalso; revert e; decide)
def ycells (l : List Bool) : List Value := l.map (fun b => .int .u8 (byteB b))
theorem ycells_set {l : List Bool} {k : Nat} {b : Bool} : ycells (l.set k b) = (ycells l).set k (.int .u8 (byteB b)) := by rw [ycells, ycells, List.map_set]
theorem infoU8 : (Tryd.prog.info? 5).map (fun i => (i.zero, i.size, i.bytes)) = some (some (.int .u8 0), 1, 1) := by kernel_rfl
theorem made_bytes (n : Nat) : (madeCells (Value.int .u8 0).cells (n * 1)).toList = ycells (List.replicate n false) := by
  rw [Nat.mul_one, show (Value.int .u8 0).cells = #[.int .u8 0] from rfl, toList_madeCells_one, ycells, List.map_replicate]; rfl
theorem upto_put {n : Nat} {F : Nat → Bool} {k : Nat} (h : F k = true) : upto n F (k + 1) = (upto n F k).set k true := by
  apply List.ext_getElem
  · simp [upto]
  · intro i h1 h2
    simp only [upto, List.getElem_map, List.getElem_range, List.getElem_set]
    by_cases e : k = i
    · subst e; simp [h]
    · rw [if_neg e]
      by_cases h1 : i < k
      · rw [if_pos h1, if_pos (by omega)]
      · rw [if_neg h1, if_neg (by omega)]
theorem upto_self (l : List Bool) : upto l.length (fun i => l.getD i false) l.length = l := by
  rw [upto_end]
  apply List.ext_getElem
  · simp
  · intro i h1 h2; simp [List.getD, h2]
/-- A text, in memory that has only grown. -/
def Txt (w : World) (s : ByteArray) (en : Ending) (w' : World) : Prop := en = .returned (.string s) ∧ Below w.heap.size w w'

set_option maxHeartbeats 800000 in
theorem bitsT_any (A : Option Addr) (c : Nat) (l : List Bool) (w : World) (B : Nat) (hs : Sl w B 1 A l.length c (bcells l)) (hB : B ≤ w.heap.size) (hl : l.length ≤ 1000000) :
    Calls Tryd.prog 55 #[.slice A l.length c] w (Txt w (strB l)) := by
  obtain ⟨i0, hi, hz0, hz1, hz2⟩ := info_parts infoU8
  have HI := Lib.hid hi
  have HZ0 := Lib.hid hz0
  have HZ1 := Lib.hid hz1
  have HZ2 := Lib.hid hz2
  clear hi hz0 hz1 hz2
  obtain ⟨F, hF⟩ : ∃ F : Nat → Bool, (fun i => l.getD i false) = F := ⟨_, rfl⟩
  go_enter Tryd.func55, Tryd.ntmps55
  go_wp2_with (at_make; refine wpList_make_full _ rfl _ _ 128 rfl w.heap.size 5 i0 (.int .u8 0) 1 Tryd.underlying128 HI.out HZ0.out HZ1.out .i64 .i64 _ _ l.length rfl rfl rfl rfl (by rw [HZ2.out]; omega) (by unfold maxLen; omega) (Nat.le_refl _) ?_; intro w0 hown0 hgr0)
  have hb0 : Below w.heap.size w w0 := (Tch.of_grown hgr0).below (Nat.le_refl _) (fun g _ h => by cases h)
  rw [made_bytes, ← upto_zero l.length F] at hown0
  go_loopw [11] (fun i wi => ∃ k : Nat, k ≤ l.length ∧ i = .int .i64 k ∧ wi.ownsRow w.heap.size 5 1 (.slice (some ⟨w.heap.size, 0, none⟩) l.length l.length) l.length (ycells (upto l.length F k)) ∧ Below w.heap.size w wi) (fun i _ => l.length - (intOf i).toNat)
  case atStart => exact ⟨0, by omega, rfl, hown0, hb0⟩
  case round =>
    obtain ⟨k, hk, rfl, hown, hbel⟩ := hrel
    clear hown0 hb0 hgr0
    by_cases hlt : k < l.length
    · obtain ⟨b, o, rfl, _, hc⟩ := (hs.rd.below hbel hB).at_ (bcells_at hlt)
      have hFk : F k = l.getD k false := by rw [← hF]
      have HO := Lib.hid hown
      have hcl := hown.cellAt k (by simp; omega)
      have hfz := hown.frozenAt k
      have hst := hown.stored k (.int .u8 1)
      have hlg := hown.lt _ rfl
      rw [List.getElem?_eq_getElem (by simp [ycells, upto]; omega)] at hcl
      generalize (ycells (upto l.length F k))[k]'(by simp [ycells, upto]; omega) = u0 at hcl
      clear hown
      have HST := Lib.hid hst
      clear hst
      generalize l.getD k false = y at *
      have HF := Lib.hid hFk
      have HFF := Lib.hid hF
      clear hFk hF
      cases y
      · go_wp2
        go_roundw
        case rel => exact ⟨k + 1, by omega, by go_num, by rw [upto_false HF.out]; exact HO.out, hbel⟩
        case measure => simp [intOf]; omega
      · go_wp2
        go_roundw
        case rel =>
          refine ⟨k + 1, by omega, by go_num, ?_, hbel.setCell (p := ⟨w.heap.size, k, none⟩) hlg.1 _⟩
          rw [upto_put HF.out, ycells_set]; exact HST.out.1
        case measure => simp [intOf]; omega
    · have hkl : k = l.length := by omega
      subst hkl
      have e1 : upto l.length F l.length = l := by rw [← hF]; exact upto_self l
      rw [e1] at hown
      have hcv := run_convert_bytes_arg (P := Tryd.prog) wr 128 5 Tryd.underlying128 Tryd.underlying5 w.heap.size 0 l.length l.length (l.map byteB) (by simp) (fun i hi => by
        have := hown.cellAt i (by simp; omega)
        rw [Nat.zero_add]
        simp [ycells, hi] at this ⊢
        exact this) 9 Tryd.underlying9
      clear hown e1 hF
      go_wp2
      go_ret
      exact ⟨rfl, hbel⟩
end Go.Proofs.YtamhjgkigjpbhaaDoor
