/- The walk of layer 3's law's 'is': a set is the document's. -/
import Derived.Test.YtikhlcdgibnolaaDoorTz3
import Derived.Test.YtikhlcdgibnolaaDoorEqI03
import Derived.Test.YtikhlcdgibnolaaDoorBw4
namespace Go.Proofs.YtikhlcdgibnolaaDoor
open Go.RowKit Go.Shelf

theorem below_len3 {w w' : World} {m : Nat} (h : w' = w.drewN m) : Below w.heap.size w w' := by subst h; exact ⟨rfl, rfl, rfl, Nat.le_refl _, fun _ _ => rfl⟩
theorem allL_le (x : List Bool) : (allL x).length ≤ x.length := filter_le _ _
theorem tab_below {g : Nat} {tab : List Nat} {A B : World} (h : TabAt g tab A) (hg : g < A.heap.size) (hb : Below A.heap.size A B) : TabAt g tab B := fun j hj => (hb.cell (p := ⟨g, j, none⟩) hg).trans (h j hj)
set_option maxHeartbeats 2000000 in
set_option maxRecDepth 100000 in
theorem is_any (S q n : Nat) (X : List Nat) (x : List Bool) (A : Option Addr) (c : Nat) (w : World) (B : Nat) (hX : BSet S q n X w) (hS : SameW n X x) (hs : Sl w B 1 A n c (bcells x)) (hB : B ≤ w.heap.size) (hn : n ≤ 100000) (hg : 0 < w.heap.size) (hT : TabAt 0 Lib.deBruijn64tab w) :
    Calls Tryd.prog 21 #[.pointer (some ⟨S, 0, none⟩), .slice A n c] w (Tru w true) := by
  have hnum : (numsW X).take (n + 1) = allL x := by
    rw [hS.nums]
    exact List.take_of_length_le (by have := allL_le x; rw [hS.len] at this; omega)
  have hcnt : cntW X = (allL x).length := by rw [cntW_nums, hS.nums]
  have H1 := Lib.hid (numbers_any S q n X w (n + 1) (by omega) (by omega) hg hX hT)
  rw [hnum] at H1
  have hlen := hS.len.symm
  have HL := Lib.hid (fun (w' : World) (hb : Below w.heap.size w w') => blen_any S q n X w' (hX.below hb))
  have HC := Lib.hid (fun (w' : World) (hb : Below w.heap.size w w') => bcount_any S q n X w' (hX.below hb))
  rw [hcnt] at HC
  have HA := Lib.hid (fun (w' : World) (hb : Below w.heap.size w w') => rAll_any A n c x w' B (hs.below hb hB) (Nat.le_trans hB hb.size) hlen (by omega))
  have hle := allL_le x
  rw [hS.len] at hle
  clear hnum hcnt hX hS hs hT hlen
  generalize allL x = L at *
  go_enter Tryd.func21, Tryd.ntmps21
  go_wp2_with fail
  refine Calls.mono H1.out ?_
  rintro e w1 ⟨A1, c1, rfl, hs1, hb1⟩
  go_wp2_with fail
  refine Calls.mono (HL.out _ hb1) ?_
  rintro e w' ⟨rfl, rfl⟩
  go_wp2_with fail
  refine Calls.mono (HC.out _ hb1) ?_
  rintro e w' ⟨rfl, rfl⟩
  go_wp2_with fail
  refine Calls.mono (HA.out _ hb1) ?_
  rintro e w2 ⟨v2, rfl, ho2, hb2, _⟩
  have hb02 := hb1.trans (hb2.mono hb1.size)
  obtain ⟨A2, c2, rfl, hs2⟩ := own_sl ho2
  clear ho2
  go_wp2_with fail
  refine Calls.mono (HA.out _ hb02) ?_
  rintro e w3 ⟨v3, rfl, ho3, hb3, _⟩
  have hb03 := hb02.trans (hb3.mono hb02.size)
  obtain ⟨A3, c3, rfl, hs3⟩ := own_sl ho3
  have hs13 := (hs1.below hb2 (Nat.le_refl _)).below hb3 hb2.size
  clear ho3 hs1 hs2
  have H5 := Lib.hid (sameI3_any A1 A3 L.length c1 L.length c3 (natI L) (natI L) w3 _ _ hs13 hs3 (natI_len L).symm (natI_len L).symm (by omega))
  go_wp2_with fail
  refine Calls.mono H5.out ?_
  rintro e w4 ⟨rfl, m, hw4⟩
  have hb4 := below_len3 hw4
  clear hw4
  go_wp2
  go_ret
  exact ⟨ret_bool (by simp), hb03.trans (hb4.mono hb03.size)⟩
end Go.Proofs.YtikhlcdgibnolaaDoor
