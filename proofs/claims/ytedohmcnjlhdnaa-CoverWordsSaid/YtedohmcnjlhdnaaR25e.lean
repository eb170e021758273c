/- The walks of the reference of layer 25: next, flip, until. -/
import Derived.Test.YtedohmcnjlhdnaaProg
import Derived.Test.YtedohmcnjlhdnaaMa
import Derived.Test.YtedohmcnjlhdnaaRowsB
namespace Go.Proofs.Ytedohmcnjlhdnaa
open Go.RowKit

set_option maxHeartbeats 400000 in
theorem next_any (i lp n : Nat) (w : World) (hi : i < 4294967296) : Calls Try.prog 57 #[.int .i64 i, .int .i64 lp, .int .i64 n] w fun e w' => e = .returned (.int .i64 (nx lp n i)) ∧ w' = w := by
  by_cases h : i + 1 < n
  · have hh : (i : Int) + 1 < (n : Int) := by omega
    go_enter Try.func57, Try.ntmps57
    go_wp2
    go_ret
    exact ⟨ret_int (by simp [nx, h]), rfl⟩
  · go_enter Try.func57, Try.ntmps57
    go_wp2
    go_ret
    exact ⟨ret_int (by simp [nx, h]), rfl⟩

theorem flip_take {a : List Bool} {k : Nat} (h : k < a.length) : flipL (a.take (k + 1)) = flipL (a.take k) ++ [!a.getD k false] := by
  rw [flipL, flipL, take_snoc a k h, List.map_append]
  congr 1
  simp [List.getD, h]

set_option maxHeartbeats 1000000 in
theorem flip_any (A : Option Addr) (n c : Nat) (a : List Bool) (w : World) (B : Nat) (hn : n = a.length) (hs : Sl w B 1 A n c (bcells a)) (hB : B ≤ w.heap.size) (hl : a.length ≤ 1000000000) :
    Calls Try.prog 56 #[.slice A n c] w (NewRow w 4 1 n (bcells (flipL a)) (a = [])) := by
  subst hn
  go_enter Try.func56, Try.ntmps56
  go_wp2
  go_loopw [3, 4] (fun v i wr => ∃ k : Nat, k ≤ a.length ∧ i = .int .i64 k ∧ wr.ownsRow w.heap.size 4 1 v k (bcells (flipL (a.take k))) ∧ Below w.heap.size w wr ∧ (v = .slice none 0 0 ↔ k = 0)) (fun _ i _ => a.length - (intOf i).toNat)
  case atStart => exact ⟨0, by omega, rfl, by simpa [flipL, bcells] using World.ownsRow_nil w w.heap.size 4 1, Below.refl _ _, by simp⟩
  case round =>
    obtain ⟨k, hk, rfl, hown, hbel, hnil⟩ := hrel
    by_cases hlt : k < a.length
    · obtain ⟨b0, off, rfl, _, hc⟩ := (hs.rd.below hbel hB).at_ (bcells_at hlt)
      have hr := flip_take hlt
      generalize hx : a.getD k false = x at *
      have hz := hbel.size
      have HR := Lib.hid hr
      clear hr hx hnil
      go_wp2_with (at_builtin; refine wpList_push rfl (.tmp 11) (.tmp 17) 35 rfl w.heap.size 4 1 1 sliceBool _ _ _ (hown.alloc _) rfl wr.heap.size #[.bool !x] rfl (heap_alloc_new wr _) rfl (by simp [Value.oneCell']) (by omega) (by omega) (by simp; omega) ?_; intro v3 w3 hown3 ht3 hat3 hne3)
      go_roundw
      case rel =>
        refine ⟨k + 1, by omega, by go_num, ?_, ?_, by simp [hne3]⟩
        · rw [HR.out, bcells_append]; exact hown3
        · exact (hbel.alloc hz _).trans (ht3.below (by simp; omega) (fun g hg h => by have := (hown.lt g h).1; omega))
      case measure => simp [intOf]; omega
    · have hkl : k = a.length := by omega
      subst hkl
      rw [List.take_of_length_le (Nat.le_refl _)] at hown
      go_wp2
      go_ret
      exact ⟨_, rfl, hown, hbel, by rw [← List.length_eq_zero_iff]; exact hnil⟩

/-- The row of an until, as far as k. -/
def untAt (lp : Nat) (a b : List Bool) (k : Nat) : List Bool := (List.range a.length).map fun j => if j < k then run lp a.length a b (a.length + 1) j else false
theorem untAt_zero (lp : Nat) (a b : List Bool) : untAt lp a b 0 = List.replicate a.length false := by
  apply List.ext_getElem <;> simp [untAt]
theorem untAt_end (lp : Nat) (a b : List Bool) : untAt lp a b a.length = untL lp a b :=
  List.map_congr_left (fun i hi => by rw [if_pos (List.mem_range.1 hi)])
theorem untAt_len (lp : Nat) (a b : List Bool) (k : Nat) : (untAt lp a b k).length = a.length := by simp [untAt]
theorem untAt_false {lp : Nat} {a b : List Bool} {k : Nat} (h : run lp a.length a b (a.length + 1) k = false) : untAt lp a b (k + 1) = untAt lp a b k := by
  refine List.map_congr_left (fun i _ => ?_)
  by_cases e : i = k
  · subst e; simp [h]
  · by_cases h1 : i < k
    · rw [if_pos h1, if_pos (by omega)]
    · rw [if_neg h1, if_neg (by omega)]
theorem untAt_true {lp : Nat} {a b : List Bool} {k : Nat} (h : run lp a.length a b (a.length + 1) k = true) : bcells (untAt lp a b (k + 1)) = (bcells (untAt lp a b k)).set k (.bool true) := by
  apply List.ext_getElem
  · simp [bcells, untAt]
  · intro i h1 h2
    simp only [bcells, untAt, List.getElem_map, List.getElem_range, List.getElem_set]
    by_cases e : k = i
    · subst e; simp [h]
    · rw [if_neg e]
      by_cases h1 : i < k
      · rw [if_pos h1, if_pos (by omega)]
      · rw [if_neg h1, if_neg (by omega)]

set_option maxHeartbeats 4000000 in
set_option maxRecDepth 100000 in
theorem until_any (A A' : Option Addr) (n c n' c' : Nat) (a b : List Bool) (lp : Nat) (w : World) (B B' : Nat) (hn : n = a.length) (hn' : n' = b.length) (hs : Sl w B 1 A n c (bcells a)) (hs' : Sl w B' 1 A' n' c' (bcells b)) (hB : B ≤ w.heap.size) (hB' : B' ≤ w.heap.size)
    (hl : a.length ≤ 1000000) (hab : a.length ≤ b.length) (hlp : lp < a.length) :
    Calls Try.prog 55 #[.slice A n c, .slice A' n' c', .int .i64 lp] w (NewRow w 4 1 n (bcells (untL lp a b)) False) := by
  subst hn
  have HN' := Lib.hid hn'
  have habn : a.length ≤ n' := by omega
  clear hn'
  obtain ⟨i0, hi, hz0, hz1, hz2⟩ := info_parts infoBool
  have HI := Lib.hid hi
  have HZ0 := Lib.hid hz0
  have HZ1 := Lib.hid hz1
  have HZ2 := Lib.hid hz2
  clear hi hz0 hz1 hz2
  go_enter Try.func55, Try.ntmps55
  go_wp2_with (at_make; refine wpList_make_full _ rfl _ _ 35 rfl w.heap.size 4 i0 (.bool false) 1 Try.underlying35 HI.out HZ0.out HZ1.out .i64 .i64 _ _ a.length rfl rfl rfl rfl (by rw [HZ2.out]; omega) (by unfold maxLen; omega) (Nat.le_refl _) ?_; intro w0 hown0 hgr0)
  have hb0 : Below w.heap.size w w0 := (Tch.of_grown hgr0).below (Nat.le_refl _) (fun g _ h => by cases h)
  rw [made_bools, ← untAt_zero lp a b] at hown0
  have h1n : ∀ k, run lp a.length a b (a.length + 1) k = run lp a.length a b (a.length + 1) k := fun _ => rfl
  clear h1n
  go_loopw [9] (fun i wi => ∃ k : Nat, k ≤ a.length ∧ i = .int .i64 k ∧ wi.ownsRow w.heap.size 4 1 (.slice (some ⟨w.heap.size, 0, none⟩) a.length a.length) a.length (bcells (untAt lp a b k)) ∧ Below w.heap.size w wi) (fun i _ => a.length - (intOf i).toNat)
  case atStart => exact ⟨0, by omega, rfl, hown0, hb0⟩
  case round =>
    obtain ⟨k, hk, rfl, hown, hbel⟩ := hrel
    clear hown0 hb0 hgr0
    by_cases hlt : k < a.length
    · have HO := Lib.hid hown
      have hcl := hown.cellAt k (by simp; omega)
      have hfz := hown.frozenAt k
      have hst := hown.stored k (.bool true)
      rw [List.getElem?_eq_getElem (by rw [bcells_len, untAt_len]; omega)] at hcl
      generalize hu0 : (bcells (untAt lp a b k))[k]'(by rw [bcells_len, untAt_len]; omega) = u0 at hcl
      clear hu0 hown
      have HST := Lib.hid hst
      clear hst
      go_wp2
      go_loop [10, 11] (fun p m => ∃ p' m' : Nat, p' < a.length ∧ m' ≤ a.length + 1 ∧ p = .int .i64 p' ∧ m = .int .i64 m' ∧ Hid (run lp a.length a b (a.length + 1) k = run lp a.length a b (a.length + 1 - m') p')) (fun _ m => a.length + 1 - (intOf m).toNat)
      case atStart => exact ⟨k, 0, hlt, by omega, rfl, rfl, rfl⟩
      case round =>
        obtain ⟨p, m, hp, hm, rfl, rfl, HR⟩ := hrel
        by_cases hmt : m ≤ a.length
        · obtain ⟨b1, o1, rfl, _, hc1⟩ := (hs.rd.below hbel hB).at_ (bcells_at hp)
          obtain ⟨b2, o2, rfl, hlt2, hc2⟩ := (hs'.rd.below hbel hB').at_ (bcells_at (l := b) (i := p) (by omega))
          have hpn' : p < n' := by omega
          have hrun : run lp a.length a b (a.length + 1 - m) p = (b.getD p false || (a.getD p false && run lp a.length a b (a.length + 1 - (m + 1)) (nx lp a.length p))) := by
            rw [show a.length + 1 - m = (a.length + 1 - (m + 1)) + 1 by omega, run]
          generalize ha : a.getD p false = xa at *
          generalize hb : b.getD p false = xb at *
          have HRUN := Lib.hid hrun
          clear hrun ha hb
          cases xb
          · cases xa
            · have hq : run lp a.length a b (a.length + 1) k = false := by rw [HR.out, HRUN.out]; rfl
              have HQ := Lib.hid hq
              clear hq
              go_wp2
              go_roundw
              case rel => exact ⟨k + 1, by omega, by go_num, by rw [untAt_false HQ.out]; exact HO.out, hbel⟩
              case measure => simp [intOf]; omega
            · go_wp2_with (first | (go_at_call 57; refine (next_any p lp a.length _ (by omega)).mono ?_; rintro e w' ⟨rfl, rfl⟩))
              go_round
              case rel => exact ⟨nx lp a.length p, m + 1, nx_lt hlp, by omega, rfl, by go_num, by show _ = _; rw [HR.out, HRUN.out]; simp⟩
              case measure => simp [intOf]; omega
          · have hq : run lp a.length a b (a.length + 1) k = true := by rw [HR.out, HRUN.out]; rfl
            have HQ := Lib.hid hq
            clear hq
            have hc2' : ∀ u, (wr.setCell ⟨w.heap.size, k, none⟩ u).cell? ⟨b2, o2 + p, none⟩ = some (.bool true) := fun u =>
              (World.cell?_setCell_other _ _ _ _ (fun e => by have := congrArg Addr.block e; simp at this; omega)).trans hc2
            have HC2 := Lib.hid hc2
            go_wp2
            go_roundw
            case rel => exact ⟨k + 1, by omega, by go_num, by rw [untAt_true HQ.out]; exact (HST.out).1, hbel.trans ((Tch.of_grown (HST.out).2).below hbel.size (fun g hg h => by cases h; omega))⟩
            case measure => simp [intOf]; omega
        · have hm1 : m = a.length + 1 := by omega
          subst hm1
          have hq : run lp a.length a b (a.length + 1) k = false := by rw [HR.out, Nat.sub_self]; rfl
          have HQ := Lib.hid hq
          clear hq
          go_wp2
          go_roundw
          case rel => exact ⟨k + 1, by omega, by go_num, by rw [untAt_false HQ.out]; exact HO.out, hbel⟩
          case measure => simp [intOf]; omega
    · have hkl : k = a.length := by omega
      subst hkl
      rw [untAt_end] at hown
      go_wp2
      go_ret
      exact ⟨_, rfl, hown, hbel, by simp⟩
end Go.Proofs.Ytedohmcnjlhdnaa
