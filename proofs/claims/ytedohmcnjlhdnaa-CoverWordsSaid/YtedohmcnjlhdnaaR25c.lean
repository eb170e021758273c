/- The walks of the reference of layer 25: Parts, Is. -/
import Derived.Test.YtedohmcnjlhdnaaR25b
import Derived.Test.YtedohmcnjlhdnaaMa
namespace Go.Proofs.Ytedohmcnjlhdnaa
open Go.RowKit

/-- The parts of a node x that stands at k, s telling where parts begin. -/
def partsV (s : List Int) (k : Nat) (x : Nd) : Int × Int :=
  if takesV x = 1 then ((k : Int) - 1, -1) else if takesV x = 2 then (s[k - 1]?.getD 0 - 1, (k : Int) - 1) else (-1, -1)

set_option maxHeartbeats 1000000 in
theorem Parts_any (A : Option Addr) (n c : Nat) (f : List Nd) (A' : Option Addr) (n' c' : Nat) (s : List Int) (k : Nat) (w : World) (B B' : Nat) (hn : n = f.length) (hn' : n' = s.length) (hf : Sl w B 2 A n c (ncells f)) (hs : Sl w B' 1 A' n' c' (icells s))
    (_hB : B ≤ w.heap.size) (_hB' : B' ≤ w.heap.size) (hl : f.length ≤ 1000000000) (hk : k < f.length) (h2 : takesV f[k] = 2 → 1 ≤ k ∧ ∃ v : Int, s[k - 1]? = some v ∧ 0 ≤ v ∧ v ≤ 1000000000) :
    Calls Try.prog 37 #[.slice A n c, .slice A' n' c', .int .i64 k] w (Num2 w (partsV s k f[k])) := by
  subst hn
  obtain ⟨b0, off, rfl, _, hc0, hc1⟩ := rd_nd hf.rd hk
  have hp : ∀ x, f[k] = x → partsV s k f[k] = partsV s k x := fun x h => by rw [h]
  generalize hx : f[k] = x at *
  have Hx := Lib.hid hx
  clear hx hp
  have hT := takesV_bd x
  by_cases e1 : takesV x = 1
  · have HP : Hid (partsV s k x = ((k : Int) - 1, -1)) := by show _ = _; unfold partsV; rw [if_pos e1]
    have HE := Lib.hid e1
    clear e1 hT h2
    go_enter Try.func37, Try.ntmps37
    go_wp2_with (first | (go_at_call 36; refine (Takes_any x _).mono ?_; rw [HE.out]; rintro e w' ⟨rfl, rfl⟩))
    go_ret2
    exact num2_of HP.out ((Below.refl _ _).alloc (Nat.le_refl _) _)
  · by_cases e2 : takesV x = 2
    · obtain ⟨hk1, v, hv, hv0, hv1⟩ := h2 e2
      have HP : Hid (partsV s k x = (v - 1, (k : Int) - 1)) := by show _ = _; unfold partsV; rw [if_neg e1, if_pos e2, hv]; rfl
      have HE := Lib.hid e2
      obtain ⟨_, o1, rfl, _, hcs⟩ := hs.rd.at_ (j := k - 1) (u := .int .i64 v) (by simp [icells, hv])
      have hks : k - 1 < s.length := (List.getElem?_eq_some_iff.1 hv).1
      have hb : k - 1 < n' := by rw [hn']; exact hks
      have HN' := Lib.hid hn'
      clear e1 e2 hT h2 hv hn' hks
      have hh : ((k : Int) - 1) < (n' : Int) := by omega
      go_enter Try.func37, Try.ntmps37
      have hcs1 := fun (o : Obj) => (Below.cell ((Below.refl w.heap.size w).alloc (Nat.le_refl _) o) (p := ⟨_, o1 + (k - 1), none⟩) (World.block_lt_of_cell? _ _ hcs)).trans hcs
      go_wp2_with (first | (go_at_call 36; refine (Takes_any x _).mono ?_; rw [HE.out]; rintro e w' ⟨rfl, rfl⟩))
      go_ret2
      exact num2_of HP.out ((Below.refl _ _).alloc (Nat.le_refl _) _)
    · have HP : Hid (partsV s k x = (-1, -1)) := by show _ = _; unfold partsV; rw [if_neg e1, if_neg e2]
      rcases (show takesV x = -1 ∨ takesV x = 0 by omega) with e0 | e0
      all_goals
        have HE := Lib.hid e0
        clear e0 e1 e2 hT h2
        go_enter Try.func37, Try.ntmps37
        go_wp2_with (first | (go_at_call 36; refine (Takes_any x _).mono ?_; rw [HE.out]; rintro e w' ⟨rfl, rfl⟩))
        go_ret2
        exact num2_of HP.out ((Below.refl _ _).alloc (Nat.le_refl _) _)

set_option maxHeartbeats 2000000 in
theorem IsR_any (A : Option Addr) (c : Nat) (f : List Nd) (w : World) (B : Nat) (hf : Sl w B 2 A f.length c (ncells f)) (hB : B ≤ w.heap.size) (hl : f.length ≤ 1000000000) :
    Calls Try.prog 16 #[.slice A f.length c] w (Tru w (isN f)) := by
  go_enter Try.func16, Try.ntmps16
  go_wp2_with fail
  refine (Begins_any A c f _ B hf hB (by omega)).mono ?_
  rintro e w1 ⟨v1, rfl, hown1, hb1, _⟩
  clear hown1
  by_cases hw : wrong f = 0
  · have hw' : (wrong f == 0) = true := by simp [hw]
    have HW := Lib.hid hw
    clear hw
    go_wp2
    go_loop [5] (fun i => ∃ k : Nat, k ≤ f.length ∧ i = .int .i64 k ∧ Hid (isNl 0 (f.take k) = true)) (fun i => f.length - (intOf i).toNat)
    case atStart => exact ⟨0, by omega, rfl, rfl⟩
    case round =>
      obtain ⟨k, hk, rfl, HN⟩ := hrel
      by_cases hlt : k < f.length
      · obtain ⟨b, o, rfl, _, hc0, hc1⟩ := rd_nd (hf.rd.below hb1 hB) hlt
        have hno := fun h => isNl_no hlt h
        have hok := fun h => isNl_ok hlt HN.out h
        have hnf := fun h => not_first HW.out hlt h
        have hla := fun h1 => lastOp_take hlt h1
        have HNO := Lib.hid hno
        have HOK := Lib.hid hok
        clear hno hok
        generalize hx : f[k] = x at *
        obtain ⟨op, n⟩ := x
        dsimp only at *
        have Hx := Lib.hid hx
        clear hx
        by_cases h4 : op = 4
        · subst h4
          have hk1 : 1 ≤ k := hnf (by decide)
          have hlo := hla hk1
          obtain ⟨b', o', e', _, hd0, hd1⟩ := rd_nd (hf.rd.below hb1 hB) (k := k - 1) (by omega)
          cases e'
          clear hnf hla
          generalize hy : f[k - 1] = y at *
          obtain ⟨op', n'⟩ := y
          dsimp only at *
          have HLO := Lib.hid hlo
          have HY := Lib.hid hy
          clear hlo hy
          by_cases h3 : op' = 3
          · subst h3
            go_wp2
            go_round
            case rel => exact ⟨k + 1, by omega, by go_num, HOK.out (by rw [HLO.out]; rfl)⟩
            case measure => simp [intOf]; omega
          · go_wp2
            go_ret
            exact ⟨ret_bool (by rw [HNO.out (by rw [HLO.out]; simp [okN, h3])]), hb1⟩
        · clear hnf hla
          by_cases h7 : op = 7 ∨ op = 11 ∨ op = 12
          · rcases h7 with rfl | rfl | rfl
            all_goals
              go_wp2
              go_ret
              exact ⟨ret_bool (by rw [HNO.out (by simp [okN])]), hb1⟩
          · have e7 : op ≠ 7 := fun h => h7 (.inl h)
            have e11 : op ≠ 11 := fun h => h7 (.inr (.inl h))
            have e12 : op ≠ 12 := fun h => h7 (.inr (.inr h))
            clear h7
            go_wp2
            go_round
            case rel => exact ⟨k + 1, by omega, by go_num, HOK.out (by simp [okN, h4, e7, e11, e12])⟩
            case measure => simp [intOf]; omega
      · have hkl : k = f.length := by omega
        subst hkl
        go_wp2
        go_ret
        exact ⟨ret_bool (by rw [isN_end HW.out HN.out]), hb1⟩
  · have hw' : (wrong f == 0) = false := by simpa using hw
    have HW := Lib.hid hw
    clear hw
    go_wp2
    go_ret
    exact ⟨ret_bool (by rw [isN_wrong HW.out]), hb1⟩
end Go.Proofs.Ytedohmcnjlhdnaa
