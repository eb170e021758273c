/- The walk of layer 26: Of. -/
import Derived.Test.YtkikkplpalabhaaSm8
import Derived.Test.YtkikkplpalabhaaMd
namespace Go.Proofs.Ytkikkplpalabhaa
open Go.RowKit

/-- A row that is left by P26.2. -/
def OfPost (f : List Nd) (w : World) (e : Ending) (w' : World) : Prop :=
  ∃ g A c, IsOf f g ∧ e = .returned (.slice A g.length c) ∧ Sl w' w'.heap.size 2 A g.length c (ncells g) ∧ Below w.heap.size w w'
def OfRel (f : List Nd) (w : World) (v : Value) (wr : World) : Prop :=
  ∃ (j : Nat) (A : Option Addr) (c : Nat), v = .slice A (iter (j + 1) f).length c ∧ Sl wr wr.heap.size 2 A (iter (j + 1) f).length c (ncells (iter (j + 1) f)) ∧ Below w.heap.size w wr
def lenV : Value → Nat
  | .slice _ n _ => n
  | _ => 0
theorem iter_len (f : List Nd) : ∀ j, (iter (j + 1) f).length ≤ f.length
  | 0 => by
    show (onceL f).length ≤ f.length
    by_cases h : isN f = true
    · exact (once_kept h).len
    · rw [onceL_none (by simpa using h)]; simp
  | j + 1 => by
    have ih := iter_len f j
    have := (left_step (iter_left f j)).1
    show (onceL (iter (j + 1) f)).length ≤ _
    omega
set_option maxHeartbeats 1000000 in
theorem of_any (A : Option Addr) (c : Nat) (f : List Nd) (w : World) (B : Nat) (hf : Sl w B 2 A f.length c (ncells f)) (hB : B ≤ w.heap.size) (hl : f.length ≤ 10000) :
    Calls Try.prog 24 #[.slice A f.length c] w (OfPost f w) := by
  go_enter Try.func24, Try.ntmps24
  go_wp2_with fail
  refine (once_any A c f w B hf hB hl).mono ?_
  rintro e w1 ⟨v1, rfl, hown1, hb1, _⟩
  obtain ⟨A1, c1, rfl, hs1⟩ := own_sl hown1
  go_wp2
  go_loopw [3] (fun v wr => OfRel f w v wr) (fun v _ => lenV v)
  case atStart => exact ⟨0, A1, c1, rfl, hs1, hb1⟩
  case round =>
    clear hb1 hs1 hown1
    obtain ⟨j, A2, c2, rfl, hs2, hb2⟩ := hrel
    have hlen := iter_len f j
    have hls := left_step (iter_left f j)
    have hit : iter (j + 2) f = onceL (iter (j + 1) f) := rfl
    have HIT := Lib.hid hit
    have HJ : Hid (∃ j', iter (j + 1) f = iter (j' + 1) f) := Lib.hid ⟨j, rfl⟩
    clear hit
    have HO := Lib.hid (once_any A2 c2 (iter (j + 1) f) wr wr.heap.size hs2 (Nat.le_refl _) (by omega))
    generalize hl : iter (j + 1) f = l at *
    have HL := Lib.hid hl
    clear hl
    have hz2 := hb2.size
    go_wp2_with fail
    refine Calls.mono HO.out ?_
    rintro e w3 ⟨v3, rfl, hown3, hb3, _⟩
    obtain ⟨A3, c3, rfl, hs3⟩ := own_sl hown3
    have hb23 : Below w.heap.size w w3 := hb2.trans (hb3.mono hz2)
    have hs23 := hs2.below hb3 (Nat.le_refl _)
    go_wp2_with fail
    refine (equalNd_any A2 A3 _ c2 _ c3 l (onceL l) _ _ _ hs23 hs3 rfl rfl (by omega)).mono ?_
    rintro e w4 ⟨rfl, m, rfl⟩
    by_cases he : l = onceL l
    · have hd : decide (l = onceL l) = true := by simpa using he
      have HE := Lib.hid he
      clear he
      go_wp2
      go_ret
      obtain ⟨j', hj'⟩ := HJ.out
      exact ⟨l, A2, c2, ⟨⟨j', hj'⟩, HE.out.symm⟩, rfl, (hs23.below (below_drewN (Below.refl _ _) m) (Nat.le_refl _)).up (by show wr.heap.size ≤ w3.heap.size; exact hb3.size), below_drewN hb23 m⟩
    · have hd : decide (l = onceL l) = false := by simpa using he
      have hlt : (onceL l).length < l.length := by
        have h1 := hls.1
        rcases Nat.lt_or_ge (onceL l).length l.length with h | h
        · exact h
        · exact absurd (hls.2 (by omega)).symm he
      clear he
      go_wp2
      go_roundw
      case rel =>
        refine ⟨j + 1, A3, c3, ?_, ?_, below_drewN hb23 m⟩
        · rw [show iter (j + 1 + 1) f = onceL l from HIT.out]
        · rw [show iter (j + 1 + 1) f = onceL l from HIT.out]
          exact hs3.below (below_drewN (Below.refl _ _) m) (Nat.le_refl _)
      case measure => simp [lenV]; omega
end Go.Proofs.Ytkikkplpalabhaa
