/- The walks of layer 26: parts, has, with, next. -/
import Derived.Test.YtkikkplpalabhaaSm1
import Derived.Test.YtkikkplpalabhaaConcF
import Derived.Test.YtkikkplpalabhaaLtl4
import Derived.IntWalk
namespace Go.Proofs.Ytkikkplpalabhaa
open Go.RowKit

/-- What the parts of the last node may be. -/
def KOk (n : Nat) (p : Int × Int) : Prop := p = (-1, -1) ∨ ∃ a : Nat, a + 1 < n ∧ (p = ((a : Int), -1) ∨ ∃ b : Nat, a < b ∧ b + 1 < n ∧ p = ((a : Int), (b : Int)))
theorem kids_kok {t : Tr} (h : t.ok) : KOk t.flat.length (kids t.flat ((t.flat.length : Int) - 1)) := by
  have hw := Tr.wrong_flat h
  have hl := t.flat_len
  have hp := t.size_pos
  obtain ⟨k, hk⟩ : ∃ k, k + 1 = t.size := ⟨t.size - 1, by omega⟩
  have hkl : k < t.flat.length := by omega
  have hkd := kids_at hw hkl
  have hat := at_whole h
  have hroot := (at_root hat (k := k) (by omega)).1
  have hx : t.flat[k] = t.root := (List.getElem?_eq_some_iff.1 hroot).2
  rw [show ((t.flat.length : Int) - 1) = (k : Int) by omega, hkd, hx, hl]
  match t, h, hk, hat with
  | .leaf x, ⟨h, _⟩, hk, _ => left; simp [Tr.root, h]
  | .un x a, ⟨h, ha⟩, hk, _ =>
    simp only [Tr.size] at hk
    have hs := a.size_pos
    right
    refine ⟨k - 1, by simp only [Tr.size]; omega, .inl ?_⟩
    simp only [Tr.root, h, if_true]
    congr 1; omega
  | .bin x a b, ⟨h, ha, hb⟩, hk, hat =>
    simp only [Tr.size] at hk
    have hs := a.size_pos
    have hs' := b.size_pos
    have hr := (at_root hat.2.1 (k := k - 1) (by omega)).2
    right
    refine ⟨a.size - 1, by simp only [Tr.size]; omega, .inr ⟨k - 1, by omega, by simp only [Tr.size]; omega, ?_⟩⟩
    simp only [Tr.root, h, show ¬ ((2 : Int) = 1) by decide, if_false, if_true]
    rw [hr]
    simp only [Option.getD_some]
    congr 1 <;> omega

/-- Two rows that can be read. -/
def TwoRows (w : World) (p : List Nd × List Nd) (e : Ending) (w' : World) : Prop :=
  ∃ A1 c1 A2 c2, e = .returned (.tuple #[.slice A1 p.1.length c1, .slice A2 p.2.length c2]) ∧ Sl w' w'.heap.size 2 A1 p.1.length c1 (ncells p.1) ∧ Sl w' w'.heap.size 2 A2 p.2.length c2 (ncells p.2) ∧ Below w.heap.size w w'
theorem two_of {w w' : World} {p : List Nd × List Nd} {a b : List Nd} {n1 n2 c1 c2 : Nat} {A1 A2 : Option Addr} (hp : p = (a, b)) (h1 : a.length = n1) (h2 : b.length = n2) (hs1 : Sl w' w'.heap.size 2 A1 n1 c1 (ncells a)) (hs2 : Sl w' w'.heap.size 2 A2 n2 c2 (ncells b)) (hb : Below w.heap.size w w') :
    TwoRows w p (.returned (.tuple #[.slice A1 n1 c1, .slice A2 n2 c2])) w' := by
  subst h1; subst h2; subst hp
  exact ⟨A1, c1, A2, c2, rfl, hs1, hs2, hb⟩
theorem ncells_take (l : List Nd) (k : Nat) : ncells (l.take k) = (ncells l).take (k * 2) := by
  induction l generalizing k with
  | nil => simp [ncells]
  | cons x l ih =>
    rcases k with _ | k
    · simp [ncells]
    · have := ih k
      simp only [ncells] at this
      simp only [ncells, List.take_succ_cons, List.flatMap_cons, this, show (k + 1) * 2 = k * 2 + 2 by omega]
      simp
theorem ncells_drop (l : List Nd) (k : Nat) : ncells (l.drop k) = (ncells l).drop (k * 2) := by
  induction l generalizing k with
  | nil => simp [ncells]
  | cons x l ih =>
    rcases k with _ | k
    · simp [ncells]
    · have := ih k
      simp only [ncells] at this
      simp only [ncells, List.drop_succ_cons, List.flatMap_cons, this, show (k + 1) * 2 = k * 2 + 2 by omega]
      simp
set_option maxHeartbeats 1000000 in
theorem parts_any (A : Option Addr) (n c : Nat) (l : List Nd) (w : World) (B : Nat) (hs : Sl w B 2 A n c (ncells l)) (hn : n = l.length) (hne : 0 < n) (hB : B ≤ w.heap.size) (hl : n ≤ 1000000) (hk : KOk n (kids l ((n : Int) - 1))) :
    Calls Try.prog 123 #[.slice A n c] w (TwoRows w (partsL l)) := by
  have hK := Kids_any A c l ((n : Int) - 1) w B (by rw [← hn]; exact hs) hB (by omega) (by omega)
  rw [← hn] at hK
  have hP : partsL l = (if (kids l ((n : Int) - 1)).1 < 0 then ([], [])
    else if (kids l ((n : Int) - 1)).2 < 0 then (l.take ((kids l ((n : Int) - 1)).1 + 1).toNat, [])
    else (l.take ((kids l ((n : Int) - 1)).1 + 1).toNat, (l.take ((kids l ((n : Int) - 1)).2 + 1).toNat).drop ((kids l ((n : Int) - 1)).1 + 1).toNat)) := by rw [hn]; rfl
  generalize kids l ((n : Int) - 1) = p at *
  have H := Lib.hid hK
  have HN := Lib.hid hn
  clear hK hn
  have hcap := hs.cap
  have hmax : c ≤ 9223372036854775807 := by have := hs.max; unfold maxLen at this; omega
  rcases hk with rfl | ⟨a, ha, rfl | ⟨b, hab, hb, rfl⟩⟩
  · have hp : partsL l = ([], []) := hP
    have HP := Lib.hid hp
    clear hp hP
    go_enter Try.func123, Try.ntmps123
    go_wp2_with fail
    refine Calls.mono H.out ?_
    rintro e w1 ⟨rfl, hb1⟩
    go_wp2
    go_ret2
    exact two_of HP.out rfl rfl (Sl.none_ _ _ _) (Sl.none_ _ _ _) hb1
  · have hp : partsL l = (l.take (a + 1), []) := by rw [hP]; simp only [show ¬ ((a : Int) < 0) by omega, if_false]; rfl
    have HP := Lib.hid hp
    clear hp hP
    go_enter Try.func123, Try.ntmps123
    go_wp2_with fail
    refine Calls.mono H.out ?_
    rintro e w1 ⟨rfl, hb1⟩
    go_wp2
    go_ret2
    have hs1 := ((hs.below hb1 hB).up (Nat.le_trans hB hb1.size)).take (k := a + 1) (by omega)
    rw [← ncells_take] at hs1
    exact two_of HP.out (by rw [List.length_take]; have := HN.out; omega) rfl hs1 (Sl.none_ _ _ _) hb1
  · have hp : partsL l = (l.take (a + 1), (l.take (b + 1)).drop (a + 1)) := by
      rw [hP]; simp only [show ¬ ((a : Int) < 0) by omega, show ¬ ((b : Int) < 0) by omega, if_false]; rfl
    have HP := Lib.hid hp
    clear hp hP
    have hca : ¬ c = a + 1 := by omega
    have e1 : IntKind.i64.wrap ((a : Int) + 1) = (a : Int) + 1 := IntWalk.i64_in _ (by omega)
    have e2 : IntKind.i64.wrap ((b : Int) + 1) = (b : Int) + 1 := IntWalk.i64_in _ (by omega)
    have e3 : ((a : Int) + 1).toNat = a + 1 := by omega
    have e4 : ((b : Int) + 1).toNat = b + 1 := by omega
    have E1 := Lib.hid e1
    have E2 := Lib.hid e2
    have E3 := Lib.hid e3
    have E4 := Lib.hid e4
    clear e1 e2 e3 e4
    have i0 : (0 : Int) ≤ (a : Int) + 1 := by omega
    have i1 : (a : Int) + 1 ≤ (b : Int) + 1 := by omega
    have i2 : (b : Int) + 1 ≤ (c : Int) := by omega
    have i3 : (0 : Int) ≤ (b : Int) + 1 := by omega
    have i4 : (a : Int) + 1 ≤ (c : Int) := by omega
    go_enter Try.func123, Try.ntmps123
    go_wp2_with fail
    refine Calls.mono H.out ?_
    rintro e w1 ⟨rfl, hb1⟩
    go_wp2
    have e1 := E1.out
    have e2 := E2.out
    have e3 := E3.out
    have e4 := E4.out
    go_quiet (fail)
    clear e1 e2 e3 e4
    go_wp2
    go_ret2
    have hbd : Below w.heap.size w (w1.drewN nq) := below_drewN hb1 nq
    have hsu := (hs.below hbd hB).up (Nat.le_trans hB hbd.size)
    have hs1 := hsu.take (k := a + 1) (by omega)
    have hs2 := (hsu.take (k := b + 1) (by omega)).drop (k := a + 1) (by omega)
    rw [if_neg hca, ← ncells_take, ← ncells_drop, show b + 1 - (a + 1) = b - a by omega] at hs2
    rw [← ncells_take] at hs1
    exact two_of HP.out (by rw [List.length_take]; have := HN.out; omega) (by rw [List.length_drop, List.length_take]; have := HN.out; omega) hs1 hs2 hbd
end Go.Proofs.Ytkikkplpalabhaa
