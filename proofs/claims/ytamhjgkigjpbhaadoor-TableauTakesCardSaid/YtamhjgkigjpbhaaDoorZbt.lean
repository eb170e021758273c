/- Texts that stand one behind the other, in one file. -/
import Derived.Test.YtamhjgkigjpbhaaDoorZbs
import Derived.Deep.OwnRows
import Derived.Deep.LoopGhost
import Derived.Test.YtamhjgkigjpbhaaDoorMe

/- The walks of layer 27: Long, the lasso's next. -/
namespace Go.Proofs.YtamhjgkigjpbhaaDoor
open Go.RowKit

theorem partsW_neg {op m : Int} (h : op < 1 ∨ 12 < op) : partsW ⟨op, m⟩ = -1 := by
  unfold partsW
  rw [if_neg (fun hh => by have := hh.1; dsimp only at this; omega)]
  show takes op = -1
  unfold takes; (repeat' split) <;> omega
set_option maxHeartbeats 4000000 in
theorem long_any (A : Option Addr) (c : Nat) (f : List Nd) (w : World) (B : Nat) (hf : Sl w B 2 A f.length c (ncells f)) (hl : f.length ≤ 100000) :
    Calls Tryd.prog 45 #[.slice A f.length c] w fun e w' => e = .returned (.bool (wrong f == 0)) ∧ w = w' := by
  go_enter Tryd.func45, Tryd.ntmps45
  go_wp2
  go_loop [3, 4] (fun n i => ∃ k d : Nat, k ≤ f.length ∧ d ≤ k ∧ i = .int .i64 k ∧ n = .int .i64 d ∧ Hid (scan (f.take k) 0 = (0, d))) (fun _ i => f.length - (intOf i).toNat)
  case atStart => exact ⟨0, 0, by omega, by omega, rfl, rfl, rfl⟩
  case round =>
    obtain ⟨k, d, hk, hdk, rfl, rfl, HS⟩ := hrel
    by_cases hlt : k < f.length
    · obtain ⟨b, o, rfl, _, hc0, hc1⟩ := rd_nd hf.rd hlt
      have hmore := scan_more hlt HS.out
      have hstop := scan_stop hlt HS.out
      generalize hx : f[k] = x at *
      obtain ⟨op, m⟩ := x
      dsimp only at *
      generalize hp : partsW ⟨op, m⟩ = p at *
      have HM := Lib.hid hmore
      have HT := Lib.hid hstop
      have HP := Lib.hid hp
      clear hmore hstop hx hp
      rcases op_cases op with rfl | rfl | rfl | rfl | rfl | rfl | rfl | rfl | rfl | rfl | rfl | rfl | h
      case inr.inr.inl =>
        by_cases h0 : m < 0
        · have d0 : decide (m < 0) = true := by simpa using h0
          have hs : wrong f ≠ 0 := HT.out (.inl (by rw [← HP.out]; simp [partsW]; omega))
          have HW := Lib.hid hs
          clear hs h0
          go_wp2
          go_ret
          exact ⟨ret_bool (by have := HW.out; symm; simpa using this), rfl⟩
        · have d0 : decide (m < 0) = false := by simpa using h0
          by_cases h8 : 8 ≤ m
          · have d8 : decide (8 ≤ m) = true := by simpa using h8
            have hs : wrong f ≠ 0 := HT.out (.inl (by rw [← HP.out]; simp [partsW]; omega))
            have HW := Lib.hid hs
            clear hs h0 h8
            go_wp2
            go_ret
            exact ⟨ret_bool (by have := HW.out; symm; simpa using this), rfl⟩
          · have d8 : decide (8 ≤ m) = false := by simpa using h8
            have hp : p = 0 := by rw [← HP.out]; unfold partsW; rw [if_neg (fun hh => hh.2 ⟨by dsimp only; omega, by dsimp only; omega⟩)]; rfl
            have HM2 := HM.out (by rw [hp]; omega) (by rw [hp]; omega)
            rw [hp] at HM2
            have HM3 := Lib.hid HM2
            clear HM2 hp h0 h8
            have dd : decide ((d : Int) < 0) = false := by simp
            go_wp2
            go_round
            case rel => exact ⟨k + 1, d + 1, by omega, by omega, by go_num, by go_num, HM3⟩
            case measure => simp [intOf]; omega
      case inr.inr.inr.inr.inr.inr.inr.inr.inr.inr.inr.inr =>
        have hs : wrong f ≠ 0 := HT.out (.inl (by rw [← HP.out, partsW_neg h]; omega))
        have HW := Lib.hid hs
        clear hs
        rcases h with h | h
        · have d1 : decide (op < 1) = true := by simpa using h
          clear h
          go_wp2
          go_ret
          exact ⟨ret_bool (by have := HW.out; symm; simpa using this), rfl⟩
        · have d1 : decide (op < 1) = false := by simp; omega
          have d2 : decide (12 < op) = true := by simpa using h
          clear h
          go_wp2
          go_ret
          exact ⟨ret_bool (by have := HW.out; symm; simpa using this), rfl⟩
      -- no part
      case inl =>
        have HM3 := Lib.hid (show scan (f.take (k + 1)) 0 = (0, d + 1) from by
          have hp0 : p = 0 := by rw [← HP.out]; simp [partsW, takes]
          have := HM.out (by omega) (by omega)
          rw [hp0] at this; exact this)
        have dd : decide ((d : Int) < 0) = false := by simp
        go_wp2
        go_round
        case rel => exact ⟨k + 1, d + 1, by omega, by omega, by go_num, by go_num, HM3⟩
        case measure => simp [intOf]; omega
      case inr.inl =>
        have HM3 := Lib.hid (show scan (f.take (k + 1)) 0 = (0, d + 1) from by
          have hp0 : p = 0 := by rw [← HP.out]; simp [partsW, takes]
          have := HM.out (by omega) (by omega)
          rw [hp0] at this; exact this)
        have dd : decide ((d : Int) < 0) = false := by simp
        go_wp2
        go_round
        case rel => exact ⟨k + 1, d + 1, by omega, by omega, by go_num, by go_num, HM3⟩
        case measure => simp [intOf]; omega
      all_goals first
        | (have hp1 : p = 1 := by rw [← HP.out]; simp [partsW, takes]; done
           by_cases hd : (d : Int) < 1
           · have hs := Lib.hid (HT.out (.inr (by rw [hp1]; exact hd)))
             clear hp1
             go_wp2
             go_ret
             exact ⟨ret_bool (by have := hs.out; symm; simpa using this), rfl⟩
           · have dd : decide ((d : Int) < 1) = false := by simpa using hd
             have HM2 := HM.out (by rw [hp1]; omega) (by rw [hp1]; omega)
             rw [hp1] at HM2
             have HM3 := Lib.hid HM2
             clear HM2 hp1
             go_wp2
             go_round
             case rel => exact ⟨k + 1, d - 1 + 1, by omega, by omega, by go_num, by congr 1; omega, HM3⟩
             case measure => simp [intOf]; omega)
        | (have hp1 : p = 2 := by rw [← HP.out]; simp [partsW, takes]; done
           by_cases hd : (d : Int) < 2
           · have hs := Lib.hid (HT.out (.inr (by rw [hp1]; exact hd)))
             clear hp1
             go_wp2
             go_ret
             exact ⟨ret_bool (by have := hs.out; symm; simpa using this), rfl⟩
           · have dd : decide ((d : Int) < 2) = false := by simpa using hd
             have HM2 := HM.out (by rw [hp1]; omega) (by rw [hp1]; omega)
             rw [hp1] at HM2
             have HM3 := Lib.hid HM2
             clear HM2 hp1
             go_wp2
             go_round
             case rel => exact ⟨k + 1, d - 2 + 1, by omega, by omega, by go_num, by congr 1; omega, HM3⟩
             case measure => simp [intOf]; omega)
    · have hkl : k = f.length := by omega
      subst hkl
      have hs := HS.out
      rw [List.take_of_length_le (Nat.le_refl _)] at hs
      have HL := Lib.hid (scan_last hs)
      clear hs
      go_wp2
      go_ret
      exact ⟨ret_bool HL.out.symm, rfl⟩
end Go.Proofs.YtamhjgkigjpbhaaDoor

/- The walks of layer 27: the lasso's row and settle. -/
namespace Go.Proofs.YtamhjgkigjpbhaaDoor
open Go.RowKit

theorem own_madeW {w : World} {base e n : Nat} {v : Value} (hb : base ≤ w.heap.size) (hn : n ≤ maxLen) : (w.alloc (.cells (madeCells #[v] n) e)).ownsRow base e 1 (.slice (some ⟨w.heap.size, 0, none⟩) n n) n (List.replicate n v) := by
  have hm : (madeCells #[v] n).toList = List.replicate n v := toList_madeCells_one _ _
  have hs : (madeCells #[v] n).size = n := by have := congrArg List.length hm; simpa using this
  refine ⟨by simp, .inr ⟨w.heap.size, n, _, rfl, hb, heap_alloc_new w _, Nat.le_refl _, hn, by rw [hs, Nat.mul_one], ?_⟩⟩
  rw [List.take_of_length_le (by rw [Array.length_toList, hs]; omega)]
  exact hm
theorem Fill.below {w wr w2 : World} {g n : Nat} {F : Nat → Bool} {k : Nat} (h : Fill w wr g n F k) (hb : Below wr.heap.size wr w2) : Fill w w2 g n F k := ⟨own_below h.own hb, h.bel.trans (hb.mono h.bel.size)⟩
end Go.Proofs.YtamhjgkigjpbhaaDoor

/- The walks of layer 27: the lasso's settle, for each of its closures. -/
namespace Go.Proofs.YtamhjgkigjpbhaaDoor
open Go.RowKit

/-- A row of bools under way, of a block of its own. -/
structure Bow (w wr : World) (g n : Nat) (l : List Bool) : Prop where
  own : wr.ownsRow w.heap.size 4 1 (.slice (some ⟨g, 0, none⟩) n n) n (bcells l)
  bel : Below w.heap.size w wr
section
variable {w wr w2 : World} {g n : Nat} {l : List Bool}
theorem Bow.len (h : Bow w wr g n l) : l.length = n := by have := h.own.1; rw [bcells_len] at this; omega
theorem Bow.lt (h : Bow w wr g n l) : w.heap.size ≤ g ∧ g < wr.heap.size := h.own.lt g rfl
theorem Bow.below (h : Bow w wr g n l) (hb : Below wr.heap.size wr w2) : Bow w w2 g n l := ⟨own_below h.own hb, h.bel.trans (hb.mono h.bel.size)⟩
theorem Bow.cell (h : Bow w wr g n l) {k : Nat} (hk : k < n) : wr.cell? ⟨g, k, none⟩ = some (.bool (l.getD k false)) ∧ wr.frozen? ⟨g, k, none⟩ = false := by
  refine ⟨?_, h.own.frozenAt k⟩
  rw [h.own.cellAt k (by omega)]
  exact bcells_at (by rw [h.len]; exact hk)
theorem Bow.put (h : Bow w wr g n l) (k : Nat) (b : Bool) : Bow w (wr.setCell ⟨g, k, none⟩ (.bool b)) g n (l.set k b) := by
  refine ⟨?_, ?_⟩
  · have := (h.own.stored k (.bool b)).1
    rw [show bcells (l.set k b) = (bcells l).set k (.bool b) by simp [bcells, List.map_set]]; exact this
  · exact h.bel.trans ((Tch.of_grown (h.own.stored k (.bool b)).2).below h.bel.size (fun j hj e => by cases e; have := h.lt; omega))
end
/-- A row of one bool, under way. -/
def fillC (n : Nat) (c : Bool) (k : Nat) : List Bool := (List.range n).map fun i => if i < k then c else false
theorem fillC_zero (n : Nat) (c : Bool) : fillC n c 0 = List.replicate n false := by apply List.ext_getElem <;> simp [fillC]
theorem fillC_step {n k : Nat} {c : Bool} (_hk : k < n) : (fillC n c k).set k c = fillC n c (k + 1) := by
  apply List.ext_getElem (by simp [fillC])
  intro i h1 h2
  simp [fillC] at h1
  simp only [fillC, List.getElem_set, List.getElem_map, List.getElem_range]
  by_cases e : k = i
  · subst e; simp
  · rw [if_neg e]
    by_cases h : i < k
    · rw [if_pos h, if_pos (by omega)]
    · rw [if_neg h, if_neg (by omega)]
theorem fillC_end (n : Nat) (c : Bool) : fillC n c n = List.replicate n c := by
  apply List.ext_getElem (by simp [fillC])
  intro i h1 h2
  simp [fillC] at h1
  simp [fillC, h1]
end Go.Proofs.YtamhjgkigjpbhaaDoor

/- The walks of layer 27's reference: fill, not, least. -/
namespace Go.Proofs.YtamhjgkigjpbhaaDoor
open Go.RowKit

/-- A new row of bools is made. -/
theorem bow_made (w : World) (n : Nat) (h : n ≤ 1000000) : Bow w (w.alloc (.cells (madeCells #[.bool false] n) 4)) w.heap.size n (List.replicate n false) := by
  refine ⟨?_, (Below.refl _ _).alloc (Nat.le_refl _) _⟩
  have := own_madeW (w := w) (base := w.heap.size) (e := 4) (n := n) (v := .bool false) (Nat.le_refl _) (by unfold maxLen; omega)
  rw [bcells, List.map_replicate]; exact this
set_option maxHeartbeats 1000000 in
theorem rfill_any (n : Nat) (v : Bool) (w : World) (hl : n ≤ 1000000) :
    Calls Tryd.prog 67 #[.int .i64 (n : Int), .bool v] w (NewRow w 4 1 n (bcells (List.replicate n v)) False) := by
  have hmk := run_make_row' (P := Tryd.prog) 73 4 (.bool false) 1 Tryd.underlying73 infoBool rfl .i64 .i64 n (by omega) (by omega)
  have H0 := Lib.hid (bow_made w n hl)
  go_enter Tryd.func67, Tryd.ntmps67
  go_wp2
  go_loopw [6] (fun i wr => ∃ k : Nat, k ≤ n ∧ i = .int .i64 k ∧ Bow w wr w.heap.size n (fillC n v k)) (fun i _ => n - (intOf i).toNat)
  case atStart => exact ⟨0, by omega, rfl, by rw [fillC_zero]; exact H0.out⟩
  case round =>
    clear H0
    obtain ⟨k, hk, rfl, hB⟩ := hrel
    by_cases hlt : k < n
    · obtain ⟨hc, hf⟩ := hB.cell hlt
      have hput := hB.put k v
      rw [fillC_step hlt] at hput
      have HP := Lib.hid hput
      clear hput hB
      generalize (fillC n v k).getD k false = u at *
      go_wp2
      go_roundw
      case rel => exact ⟨k + 1, by omega, by go_num, HP.out⟩
      case measure => simp [intOf]; omega
    · have hkn : k = n := by omega
      subst hkn
      rw [fillC_end] at hB
      have HB := Lib.hid hB
      clear hB
      go_wp2
      go_ret
      exact ⟨_, rfl, HB.out.own, HB.out.bel, by simp⟩
/-- A row turned round, as far as k. -/
def notC (a : List Bool) (k : Nat) : List Bool := (List.range a.length).map fun i => if i < k then !a.getD i false else false
theorem notC_zero (a : List Bool) : notC a 0 = List.replicate a.length false := by apply List.ext_getElem <;> simp [notC]
theorem notC_step {a : List Bool} {k : Nat} : (notC a k).set k (!a.getD k false) = notC a (k + 1) := by
  apply List.ext_getElem (by simp [notC])
  intro i h1 h2
  simp only [notC, List.getElem_set, List.getElem_map, List.getElem_range]
  by_cases e : k = i
  · subst e; simp
  · rw [if_neg e]
    by_cases h : i < k
    · rw [if_pos h, if_pos (by omega)]
    · rw [if_neg h, if_neg (by omega)]
theorem notC_end (a : List Bool) : notC a a.length = flipL a := by
  apply List.ext_getElem (by simp [notC, flipL])
  intro i h1 h2
  simp [notC] at h1
  simp [notC, flipL, h1]
set_option maxHeartbeats 1000000 in
theorem rnot_any (A : Option Addr) (n c : Nat) (a : List Bool) (w : World) (B : Nat) (hn : n = a.length) (hs : Sl w B 1 A n c (bcells a)) (hB : B ≤ w.heap.size) (hl : n ≤ 1000000) :
    Calls Tryd.prog 68 #[.slice A n c] w (NewRow w 4 1 n (bcells (flipL a)) False) := by
  have hmk := run_make_row' (P := Tryd.prog) 73 4 (.bool false) 1 Tryd.underlying73 infoBool rfl .i64 .i64 n (by omega) (by omega)
  have H0 := Lib.hid (bow_made w n hl)
  have HN := Lib.hid hn
  have HS := Lib.hid hs
  clear hn hs
  go_enter Tryd.func68, Tryd.ntmps68
  go_wp2
  go_loopw [4] (fun i wr => ∃ k : Nat, k ≤ n ∧ i = .int .i64 k ∧ Bow w wr w.heap.size n (notC a k)) (fun i _ => n - (intOf i).toNat)
  case atStart => exact ⟨0, by omega, rfl, by rw [notC_zero, ← HN.out]; exact H0.out⟩
  case round =>
    clear H0
    obtain ⟨k, hk, rfl, hBw⟩ := hrel
    by_cases hlt : k < n
    · obtain ⟨hc, hf⟩ := hBw.cell hlt
      obtain ⟨b, o, rfl, hbB, hca⟩ := (HS.out.below hBw.bel hB).rd.at_ (bcells_at (l := a) (i := k) (by rw [← HN.out]; exact hlt))
      have hput := hBw.put k (!a.getD k false)
      rw [notC_step] at hput
      have HP := Lib.hid hput
      clear hput hBw
      generalize (notC a k).getD k false = u at *
      generalize a.getD k false = x at *
      go_wp2
      go_roundw
      case rel => exact ⟨k + 1, by omega, by go_num, HP.out⟩
      case measure => simp [intOf]; omega
    · have hkn : k = n := by omega
      subst hkn
      have e : notC a k = flipL a := by rw [HN.out, notC_end]
      rw [e] at hBw
      have HB := Lib.hid hBw
      clear hBw e
      go_wp2
      go_ret
      exact ⟨_, rfl, HB.out.own, HB.out.bel, by simp⟩

set_option maxHeartbeats 4000000 in
theorem rleast_any (A1 A2 A A' : Option Addr) (n1 c1 n2 c2 n c n' c' : Nat) (a b : List Bool) (w : World) (B : Nat) (hl : n1 + n2 ≤ 60000) (h2 : 0 < n2) (ha : n = n1 + n2) (hb : n' = n1 + n2) (hal : a.length = n1 + n2) (hs : Sl w B 1 A n c (bcells a)) (hbl : b.length = n1 + n2) (hs' : Sl w B 1 A' n' c' (bcells b)) (hB : B ≤ w.heap.size) :
    Calls Tryd.prog 69 #[.agg #[.slice A1 n1 c1, .slice A2 n2 c2], .slice A n c, .slice A' n' c'] w (NewRow w 4 1 (n1 + n2) (bcells (untL n1 a b)) False) := by
  obtain ⟨hb0, x0, x1⟩ := wbox w A1 A2 n1 c1 n2 c2
  obtain ⟨w0, hw0⟩ : ∃ W, W = w.alloc (.cells #[.slice A1 n1 c1, .slice A2 n2 c2] 35) := ⟨_, rfl⟩
  have hz0 : w0.heap.size = w.heap.size + 1 := by rw [hw0]; simp
  rw [← hw0] at hb0 x0 x1
  have HW0 := Lib.hid hw0
  have HX := Lib.hid (And.intro x0 x1)
  have hzw : w.heap.size < w0.heap.size := by omega
  have hzw0 : w.heap.size ≤ w0.heap.size := by omega
  have HNX := Lib.hid (fun (k : Nat) (w' : World) (hk : k < n1 + n2) => rnext_any A1 A2 n1 c1 n2 c2 k w' hl hk)
  have hlp : n1 < n1 + n2 := by omega
  have hthr := settle_thrice (lp := n1) (a := a) (b := b) (by omega)
  rw [hal] at hthr
  subst ha hb
  have HA := Lib.hid (hs.below hb0 hB)
  have HB := Lib.hid (hs'.below hb0 hB)
  generalize hN : n1 + n2 = N at *
  have hmk := run_make_row' (P := Tryd.prog) 73 4 (.bool false) 1 Tryd.underlying73 infoBool rfl .i64 .i64 N (by omega) (by omega)
  have h0 := bow_made w0 N (by omega)
  rw [hz0] at h0
  have H0 := Lib.hid h0
  have HAL := Lib.hid hal
  have HBL := Lib.hid hbl
  have HT := Lib.hid hthr
  have hBw' : B ≤ w0.heap.size := by omega
  clear hw0 hz0 hN h0 hal hbl hthr hs hs' x0 x1
  go_enter Tryd.func69, Tryd.ntmps69
  go_wp2_with fail
  rw [← HW0.out]
  clear HW0
  go_wp2
  go_loopw [8] (fun i wr => ∃ t : Nat, t ≤ 3 ∧ i = .int .i64 t ∧ Bow w0 wr (w.heap.size + 1) N (if t = 0 then List.replicate N false else if t = 1 then sweepL (ofU a b) N n1 (List.replicate N false) else if t = 2 then settleL (ofU a b) N n1 false else sweepL (ofU a b) N n1 (settleL (ofU a b) N n1 false))) (fun i _ => 3 - (intOf i).toNat)
  case atStart => exact ⟨0, by omega, rfl, H0.out⟩
  case round =>
    clear H0
    obtain ⟨t, ht, rfl, hBo⟩ := hrel
    by_cases hlt : t < 3
    · have HB0 := Lib.hid hBo
      clear hBo
      obtain ⟨old, hold⟩ : ∃ old, old = (if t = 0 then List.replicate N false else if t = 1 then sweepL (ofU a b) N n1 (List.replicate N false) else if t = 2 then settleL (ofU a b) N n1 false else sweepL (ofU a b) N n1 (settleL (ofU a b) N n1 false)) := ⟨_, rfl⟩
      rw [← hold] at HB0
      have holdl : old.length = N := HB0.out.len
      have hnew : sweepL (ofU a b) N n1 old = (if t + 1 = 0 then List.replicate N false else if t + 1 = 1 then sweepL (ofU a b) N n1 (List.replicate N false) else if t + 1 = 2 then settleL (ofU a b) N n1 false else sweepL (ofU a b) N n1 (settleL (ofU a b) N n1 false)) := by
        rw [hold]
        rcases (show t = 0 ∨ t = 1 ∨ t = 2 by omega) with rfl | rfl | rfl
        · simp
        · simp [settleL]
        · simp
      have HNW := Lib.hid hnew
      have HOL := Lib.hid holdl
      have dt3 : decide ((t : Int) < 3) = true := by simp; omega
      clear hnew hold holdl
      go_wp2
      go_loopw [9] (fun i wr2 => ∃ j : Nat, j ≤ N ∧ i = .int .i64 ((j : Int) - 1) ∧ Bow w0 wr2 (w.heap.size + 1) N (swK (ofU a b) N n1 old j)) (fun i _ => (intOf i + 1).toNat)
      case atStart => exact ⟨N, by omega, by go_num, by rw [swK_start HOL.out]; exact HB0.out⟩
      case round =>
        clear HB0
        obtain ⟨j, hj, rfl, hBo⟩ := hrel
        by_cases hj0 : j = 0
        · subst hj0
          have HB0 := Lib.hid hBo
          clear hBo
          go_wp2
          go_roundw
          case rel => exact ⟨t + 1, by omega, by go_num, by rw [← HNW.out]; exact HB0.out⟩
          case measure => simp [intOf]; omega
        · obtain ⟨i, rfl⟩ : ∃ i, j = i + 1 := ⟨j - 1, by omega⟩
          have ei : (((i + 1 : Nat) : Int) - 1) = (i : Int) := by omega
          rw [ei]
          clear ei hj0
          have hik : i < N := by omega
          have hy0 := (hBo.bel.cell (p := ⟨w.heap.size, 0, none⟩) hzw).trans HX.out.1
          have hy1 := (hBo.bel.cell (p := ⟨w.heap.size, 1, none⟩) hzw).trans HX.out.2
          obtain ⟨ba, oa, rfl, hla, hca⟩ := (HA.out.below hBo.bel hBw').rd.at_ (bcells_at (l := a) (i := i) (by rw [HAL.out]; exact hik))
          obtain ⟨bb, ob, rfl, hlb, hcb⟩ := (HB.out.below hBo.bel hBw').rd.at_ (bcells_at (l := b) (i := i) (by rw [HBL.out]; exact hik))
          have hnxl := nx_lt (lp := n1) (n := N) (i := i) hlp
          have hstep := swK_step (of := ofU a b) (old := old) hik hlp
          obtain ⟨hc, hf⟩ := hBo.cell hik
          cases hbv : b.getD i false
          · rw [hbv] at hcb
            cases hav : a.getD i false
            · rw [hav] at hca
              have e : ∀ v, ofU a b i v = false := fun v => by unfold ofU; rw [hbv, hav]; rfl
              have hput := hBo.put i false
              rw [e] at hstep
              rw [hstep] at hput
              have HP := Lib.hid hput
              generalize (swK (ofU a b) N n1 old (i + 1)).getD i false = u at *
              clear hput hstep e hbv hav hBo
              go_wp2
              go_roundw
              case rel => exact ⟨i, by omega, by go_num, HP.out⟩
              case measure => simp [intOf] <;> omega
            · rw [hav] at hca
              have e : ∀ v, ofU a b i v = v := fun v => by unfold ofU; rw [hbv, hav]; rfl
              rw [e] at hstep
              have HSTP := Lib.hid hstep
              have HBo := Lib.hid hBo
              have HNXC := Lib.hid (HNX.out i wr hik)
              clear hstep e hbv hav hBo hc hf
              generalize nx n1 N i = m at *
              go_wp2_with fail
              refine Calls.mono HNXC.out ?_
              rintro e w5 ⟨rfl, hb5⟩
              have hB5 := HBo.out.below hb5
              obtain ⟨hc5, hf5⟩ := hB5.cell hnxl
              obtain ⟨hc6, hf6⟩ := hB5.cell hik
              have hput := hB5.put i ((swK (ofU a b) N n1 old (i + 1)).getD m false)
              rw [HSTP.out] at hput
              have HP := Lib.hid hput
              generalize (swK (ofU a b) N n1 old (i + 1)).getD m false = v at *
              generalize (swK (ofU a b) N n1 old (i + 1)).getD i false = u at *
              clear hput hB5
              go_wp2
              go_roundw
              case rel => exact ⟨i, by omega, by go_num, HP.out⟩
              case measure => simp [intOf] <;> omega
          · rw [hbv] at hcb
            have e : ∀ v, ofU a b i v = true := fun v => by unfold ofU; rw [hbv]; rfl
            have hput := hBo.put i true
            rw [e] at hstep
            rw [hstep] at hput
            have HP := Lib.hid hput
            generalize (swK (ofU a b) N n1 old (i + 1)).getD i false = u at *
            clear hput hstep e hbv hBo
            go_wp2
            go_roundw
            case rel => exact ⟨i, by omega, by go_num, HP.out⟩
            case measure => simp [intOf] <;> omega
    · have ht2 : t = 3 := by omega
      subst ht2
      simp only [show ¬ ((3 : Nat) = 0) by decide, show ¬ ((3 : Nat) = 1) by decide, show ¬ ((3 : Nat) = 2) by decide, if_false] at hBo
      rw [HT.out] at hBo
      have HB0 := Lib.hid hBo
      clear hBo
      go_wp2
      go_ret
      exact ⟨_, rfl, own_base HB0.out.own hzw0, hb0.trans (HB0.out.bel.mono hzw0), by simp⟩
end Go.Proofs.YtamhjgkigjpbhaaDoor
