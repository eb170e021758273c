/- The walks of layer 3's reference: With, Both. -/
import Derived.Test.YtikhlcdgibnolaaDoorTr4
import Derived.Test.YtikhlcdgibnolaaDoorEqI03
import Derived.Test.YtikhlcdgibnolaaDoorEqB03
namespace Go.Proofs.YtikhlcdgibnolaaDoor
open Go.RowKit

/-- Bools that read somewhere, and a bool. -/
def SlB2 (A0 : Option Addr) (w : World) (n : Nat) (x : List Bool) (b : Bool) (en : Ending) (w' : World) : Prop :=
  ∃ A c, en = .returned (.tuple #[.slice A n c, .bool b]) ∧ Sl w' w'.heap.size 1 A n c (bcells x) ∧ Below w.heap.size w w' ∧ (A = A0 ∨ ∃ g, A = some ⟨g, 0, none⟩ ∧ w.heap.size ≤ g)
def withL (n : Nat) (x : List Bool) (i : Int) (b : Bool) : List Bool := if inB n i = true then x.set i.toNat b else x
def didL (n : Nat) (x : List Bool) (i : Int) (b : Bool) : Bool := inB n i && (x.getD i.toNat false != b)
theorem bcells_one (l : List Bool) : ∀ u ∈ bcells l, u.oneCell' = true := by
  intro u hu
  obtain ⟨b, _, rfl⟩ := List.mem_map.1 hu
  rfl
theorem with_set {w w3 : World} {v3 : Value} {n i : Nat} {x : List Bool} (hown3 : w3.ownsRow w.heap.size 4 1 v3 (0 + n) ([] ++ bcells x))
    (ht3 : Tch (fun k => (Value.slice (some ⟨w.heap.size, 0, none⟩) 0 0).ownBlock = some k) (w.alloc (.cells #[] 4)) w3) (hi : i < n) (b : Bool) :
    ∃ g u cap, v3 = .slice (some ⟨g, 0, none⟩) n cap ∧ w3.cell? ⟨g, i, none⟩ = some u ∧ w3.frozen? ⟨g, i, none⟩ = false ∧
      Hid ((w3.setCell ⟨g, i, none⟩ (.bool b)).ownsRow w.heap.size 4 1 (.slice (some ⟨g, 0, none⟩) n cap) n (bcells (x.set i b)) ∧ Below w.heap.size w (w3.setCell ⟨g, i, none⟩ (.bool b))) := by
  rw [Nat.zero_add, List.nil_append] at hown3
  have hx : n = x.length := by have := hown3.1; simpa [bcells] using this.symm
  obtain ⟨g, cap, rfl, hcap, _⟩ := own_form hown3 (by omega)
  have hcell := hown3.cellAt i (by omega)
  rw [List.getElem?_eq_getElem (by rw [bcells_len]; omega)] at hcell
  have hst := (hown3.stored i (.bool b)).1
  have hbw : Below w.heap.size w w3 := ((Below.refl w.heap.size w).alloc (Nat.le_refl _) _).trans (ht3.below (by simp) (fun k hk h => by simp [Value.ownBlock] at h; omega))
  exact ⟨g, _, cap, rfl, hcell, hown3.frozenAt i, by rw [bcells, List.map_set]; exact hst, hbw.setCell (p := ⟨g, i, none⟩) (hown3.lt g rfl).1 (.bool b)⟩
set_option maxHeartbeats 2000000 in
theorem rWith_any (A : Option Addr) (n c : Nat) (x : List Bool) (i : Int) (b : Bool) (w : World) (hs : Sl w w.heap.size 1 A n c (bcells x)) (hn : n = x.length) (hl : n ≤ 1000000) :
    Calls Tryd.prog 18 #[.slice A n c, .int .i64 i, .bool b] w (SlB2 A w n (withL n x i b) (didL n x i b)) := by
  by_cases h0 : i < 0
  · have d0 : decide (i < 0) = true := by simpa using h0
    have e1 : withL n x i b = x := by rw [withL, if_neg (by simp [inB]; omega)]
    have e2 : didL n x i b = false := by simp [didL, inB]; omega
    have E1 := Lib.hid e1
    have E2 := Lib.hid e2
    clear e1 e2 hn h0
    go_enter Tryd.func18, Tryd.ntmps18
    go_wp2
    go_ret2
    exact ⟨A, c, by rw [E2.out]; rfl, by rw [E1.out]; exact hs, Below.refl _ _, .inl rfl⟩
  have d0 : decide (i < 0) = false := by simpa using h0
  by_cases h1 : (n : Int) ≤ i
  · have d1 : decide ((n : Int) ≤ i) = true := by simpa using h1
    have e1 : withL n x i b = x := by rw [withL, if_neg (by simp [inB]; omega)]
    have e2 : didL n x i b = false := by simp [didL, inB]; omega
    have E1 := Lib.hid e1
    have E2 := Lib.hid e2
    clear e1 e2 hn h0
    go_enter Tryd.func18, Tryd.ntmps18
    go_wp2
    go_ret2
    exact ⟨A, c, by rw [E2.out]; rfl, by rw [E1.out]; exact hs, Below.refl _ _, .inl rfl⟩
  have d1 : decide ((n : Int) ≤ i) = false := by simpa using h1
  obtain ⟨i, rfl⟩ := Int.eq_ofNat_of_zero_le (show 0 ≤ i by omega)
  have hin : inB n (i : Int) = true := by simp [inB]; omega
  have hix : i < x.length := by omega
  obtain ⟨bb, o, rfl, hbB, hc⟩ := hs.rd.at_ (bcells_at hix)
  have hc1 : i < n := by omega
  have hc2 : (i : Int) < (n : Int) := by omega
  by_cases he : x.getD i false = b
  · have e1 : withL n x i b = x := by
      rw [withL, if_pos hin, Int.toNat_natCast]
      refine List.ext_getElem (by simp) (fun j g1 g2 => ?_)
      rw [List.getElem_set]
      by_cases e : i = j
      · subst e; rw [if_pos rfl, ← he, List.getD_eq_getElem?_getD, List.getElem?_eq_getElem g2]; rfl
      · rw [if_neg e]
    have e2 : didL n x i b = false := by rw [didL, hin, Int.toNat_natCast, he]; simp
    have E1 := Lib.hid e1
    have E2 := Lib.hid e2
    have hbe : (x.getD i false == b) = true := beq_iff_eq.2 he
    clear e1 e2 hn h0 he hin hix
    generalize x.getD i false = y at *
    go_enter Tryd.func18, Tryd.ntmps18
    go_wp2
    go_ret2
    exact ⟨some ⟨bb, o, none⟩, c, by rw [E2.out]; rfl, by rw [E1.out]; exact hs, Below.refl _ _, .inl rfl⟩
  · have e1 : withL n x i b = x.set i b := by rw [withL, if_pos hin, Int.toNat_natCast]
    have e2 : didL n x i b = true := by rw [didL, hin, Int.toNat_natCast]; exact bne_iff_ne.2 he
    have E1 := Lib.hid e1
    have E2 := Lib.hid e2
    have hbe : (x.getD i false == b) = false := beq_eq_false_iff_ne.2 he
    have hxl := hn
    have HN := Lib.hid hn
    clear e1 e2 hn h0 he hin hxl
    generalize hy : x.getD i false = y at *
    have HY := Lib.hid hy
    clear hy
    have hmb : (w.alloc (.cells #[] 4)).ownsRow w.heap.size 4 1 (.slice (some ⟨w.heap.size, 0, none⟩) 0 0) 0 [] :=
      World.ownsRow_made w #[] 0 (Nat.le_refl _) (by unfold maxLen; omega) (by simp)
    have hsa := hs.below ((Below.refl w.heap.size w).alloc (Nat.le_refl _) (.cells #[] 4)) (Nat.le_refl _)
    have hix2 : i < n := by omega
    go_enter Tryd.func18, Tryd.ntmps18
    go_wp2_with (at_builtin; refine wpList_extend rfl (.tmp 26) (.tmp 27) 34 rfl w.heap.size 4 1 1 sliceBool _ _ _ hmb rfl w.heap.size _ _ _ _ rfl hsa (bcells_one x) (by omega) (by omega) (by simp) ?_; intro v3 w3 hown3 ht3 hat3 hne3; obtain ⟨g, u, cap, rfl, hcell, hfr, hset⟩ := with_set hown3 ht3 hix2 b)
    go_ret2
    obtain ⟨A', c', hv, hsl⟩ := own_sl hset.out.1
    cases hv
    exact ⟨_, _, by rw [E2.out]; rfl, by rw [E1.out]; exact hsl, hset.out.2, .inr ⟨_, rfl, hset.out.1.lt _ rfl |>.1⟩⟩
end Go.Proofs.YtikhlcdgibnolaaDoor
