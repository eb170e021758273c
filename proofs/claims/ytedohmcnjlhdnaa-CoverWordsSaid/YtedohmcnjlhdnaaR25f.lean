/- The walk of the reference of layer 25: places. -/
import Derived.Test.YtedohmcnjlhdnaaR25e
import Derived.Test.YtedohmcnjlhdnaaR25a
namespace Go.Proofs.Ytedohmcnjlhdnaa
open Go.RowKit

/-- The node in its box. -/
def XC (w wi : World) (op m : Int) : Prop := Hid (wi.cell? ⟨w.heap.size, 0, none⟩ = some (.int .i64 op) ∧ wi.cell? ⟨w.heap.size, 1, none⟩ = some (.int .i64 m))
theorem XC.put {w wi : World} {op m : Int} (h : XC w wi op m) (k : Nat) (u : Value) : XC w (wi.setCell ⟨w.heap.size + 1, k, none⟩ u) op m :=
  ⟨(World.cell?_setCell_other _ _ _ _ (fun e => by have := congrArg Addr.block e; simp at this)).trans h.1, (World.cell?_setCell_other _ _ _ _ (fun e => by have := congrArg Addr.block e; simp at this)).trans h.2⟩
theorem places_op {op : Int} (h : 0 ≤ takes op) : op = 1 ∨ op = 2 ∨ op = 3 ∨ op = 4 ∨ op = 5 ∨ op = 6 ∨ op = 7 ∨ op = 8 ∨ op = 9 ∨ op = 10 ∨ op = 11 ∨ op = 12 := by
  unfold takes at h; (repeat' split at h) <;> omega

set_option maxHeartbeats 8000000 in
set_option maxRecDepth 100000 in
theorem places25_any (x : Nd) (A A1 A2 : Option Addr) (n c n1 c1 n2 c2 : Nat) (sets : List Int) (lp : Nat) (a b : List Bool) (bits : Int → Nat → Bool) (w : World) (B B1 B2 : Nat)
    (hn : n = sets.length) (hn1 : n1 = a.length) (hn2 : n2 = b.length) (hs : Sl w B 1 A n c (ucells sets)) (h1 : Sl w B1 1 A1 n1 c1 (bcells a)) (h2 : Sl w B2 1 A2 n2 c2 (bcells b))
    (hB : B ≤ w.heap.size) (hB1 : B1 ≤ w.heap.size) (hB2 : B2 ≤ w.heap.size) (hl : n ≤ 100000) (hlp : lp < n) (hx : 0 ≤ takes x.op) (hx3 : x.op = 3 → 0 ≤ x.n ∧ x.n < 8)
    (hbits : ∀ m k, bits m k = (Go.bits .and .u64 (sets.getD k 0 / 2 ^ m.toNat) 1 == 1)) (ha : 1 ≤ takes x.op → n1 = n) (hb : 2 ≤ takes x.op → n2 = n) :
    Calls Try.prog 38 #[.agg #[.int .i64 x.op, .int .i64 x.n], .slice A n c, .int .i64 lp, .slice A1 n1 c1, .slice A2 n2 c2] w (NewRow w 4 1 n (bcells (placesL bits n lp x a b)) False) := by
  have HN := Lib.hid hn
  have HN1 := Lib.hid hn1
  have HN2 := Lib.hid hn2
  have HBITS := Lib.hid hbits
  clear hn hn1 hn2 hbits
  obtain ⟨i0, hi, hz0, hz1, hz2⟩ := info_parts infoBool
  have HI := Lib.hid hi
  have HZ0 := Lib.hid hz0
  have HZ1 := Lib.hid hz1
  have HZ2 := Lib.hid hz2
  clear hi hz0 hz1 hz2
  obtain ⟨op, m⟩ := x
  dsimp only at *
  go_enter Try.func38, Try.ntmps38
  obtain ⟨w0, hw0⟩ : ∃ w0, w0 = w.alloc (.cells #[.int .i64 op, .int .i64 m] 38) := ⟨_, rfl⟩
  have hb0 : Below w.heap.size w w0 := by rw [hw0]; exact (Below.refl _ _).alloc (Nat.le_refl _) _
  have hx0 : w0.cell? ⟨w.heap.size, 0, none⟩ = some (.int .i64 op) ∧ w0.cell? ⟨w.heap.size, 1, none⟩ = some (.int .i64 m) := by
    rw [hw0]; exact ⟨by rw [cell_of_row _ _ _ _ _ _ (heap_alloc_new w _)]; rfl, by rw [cell_of_row _ _ _ _ _ _ (heap_alloc_new w _)]; rfl⟩
  have hsz0 : w0.heap.size = w.heap.size + 1 := by rw [hw0]; simp
  have HW0 := Lib.hid hw0
  clear hw0
  go_wp2_with (first
    | (at_make; rw [← HW0.out]; refine wpList_make_full w0 rfl _ _ 35 rfl w0.heap.size 4 i0 (.bool false) 1 Try.underlying35 HI.out HZ0.out HZ1.out .i64 .i64 _ _ n rfl rfl rfl rfl (by rw [HZ2.out]; omega) (by unfold maxLen; omega) (Nat.le_refl _) ?_; intro w1 hown1 hgr1; have hz1 := hgr1.size)
    | (at_make; refine wpList_make_full w1 rfl _ _ 35 rfl w1.heap.size 4 i0 (.bool false) 1 Try.underlying35 HI.out HZ0.out HZ1.out .i64 .i64 _ _ n rfl rfl rfl rfl (by rw [HZ2.out]; omega) (by unfold maxLen; omega) (Nat.le_refl _) ?_; intro w2 hown2 hgr2))
  rw [made_bools] at hown1 hown2
  have hb1 : Below w0.heap.size w0 w1 := (Tch.of_grown hgr1).below (Nat.le_refl _) (fun g _ h => by cases h)
  have hb2 : Below w1.heap.size w1 w2 := (Tch.of_grown hgr2).below (Nat.le_refl _) (fun g _ h => by cases h)
  rw [hsz0] at hown1
  have hbw1 : Below w.heap.size w w1 := hb0.trans (hb1.mono (by omega))
  rw [← upto_zero n (fun _ => true)] at hown2
  have hF0 : Fill w1 w2 w1.heap.size n (fun _ => true) 0 := ⟨hown2, hb2⟩
  have hx1 : w1.cell? ⟨w.heap.size, 0, none⟩ = some (.int .i64 op) ∧ w1.cell? ⟨w.heap.size, 1, none⟩ = some (.int .i64 m) :=
    ⟨(hb1.cell (p := ⟨w.heap.size, 0, none⟩) (show w.heap.size < w0.heap.size by omega)).trans hx0.1, (hb1.cell (p := ⟨w.heap.size, 1, none⟩) (show w.heap.size < w0.heap.size by omega)).trans hx0.2⟩
  have HX1 := Lib.hid hx1
  clear hgr1 hgr2 hb2 hown2 hx0 hx1 HW0
  go_loopw [13] (fun i wi => ∃ k : Nat, k ≤ n ∧ i = .int .i64 k ∧ Fill w1 wi w1.heap.size n (fun _ => true) k) (fun i _ => n - (intOf i).toNat)
  case atStart => exact ⟨0, by omega, rfl, hF0⟩
  case round =>
    obtain ⟨k, hk, rfl, hF⟩ := hrel
    clear hF0
    by_cases hlt : k < n
    · obtain ⟨u, hcl, hfz⟩ := hF.cell hlt
      go_wp2
      go_roundw
      case rel => exact ⟨k + 1, by omega, by go_num, hF.put rfl⟩
      case measure => simp [intOf]; omega
    · have hkl : n = k := by omega
      subst hkl
      have hy := hF.own
      rw [upto_yes] at hy
      have hbw : Below w.heap.size w wr := hbw1.trans (hF.bel.mono hbw1.size)
      have hown1' : wr.ownsRow (w.heap.size + 1) 4 1 (.slice (some ⟨w.heap.size + 1, 0, none⟩) n n) n (bcells (List.replicate n false)) := own_below hown1 hF.bel
      have hs' := hs.below hbw hB
      have h1' := h1.below hbw hB1
      have h2' := h2.below hbw hB2
      have hzr := hbw.size
      have hx1 : wr.cell? ⟨w.heap.size, 0, none⟩ = some (.int .i64 op) ∧ wr.cell? ⟨w.heap.size, 1, none⟩ = some (.int .i64 m) :=
        ⟨(hF.bel.cell (p := ⟨w.heap.size, 0, none⟩) (show w.heap.size < w1.heap.size by omega)).trans HX1.out.1, (hF.bel.cell (p := ⟨w.heap.size, 1, none⟩) (show w.heap.size < w1.heap.size by omega)).trans HX1.out.2⟩
      obtain ⟨hx1, hx2⟩ := hx1
      have hz1r := hF.bel.size
      clear hF hown1 hbw1 hb1 hb0 HX1
      obtain ⟨Ay, cy, ey, hsy⟩ := own_sl hy
      cases ey
      obtain ⟨wo, rfl⟩ : ∃ x, x = wr := ⟨wr, rfl⟩
      rcases places_op hx with rfl | rfl | rfl | rfl | rfl | rfl | rfl | rfl | rfl | rfl | rfl | rfl
      all_goals clear hx
      -- 1
      · have HP : Hid (placesL bits n lp ⟨1, m⟩ a b = (List.range n).map (place1 (bits m) ⟨1, m⟩ n lp a b)) := by show _ = _; simp [placesL]
        have hF0 : Fill w wo (w.heap.size + 1) n (place1 (bits m) ⟨1, m⟩ n lp a b) 0 := ⟨by rw [upto_zero]; exact own_base hown1' (by omega), hbw⟩
        have hFk : ∀ k, place1 (bits m) ⟨1, m⟩ n lp a b k = true := fun k => by simp [place1]
        have HFK := Lib.hid hFk
        generalize place1 (bits m) ⟨1, m⟩ n lp a b = F at *
        have HX := Lib.hid (And.intro hx1 hx2)
        clear hFk hsy hy hown1'
        go_wp2
        go_loopw [14] (fun i wi => ∃ k : Nat, k ≤ n ∧ i = .int .i64 k ∧ Fill w wi (w.heap.size + 1) n F k ∧ XC w wi 1 m) (fun i _ => n - (intOf i).toNat)
        case atStart => exact ⟨0, by omega, rfl, hF0, HX⟩
        case round =>
          obtain ⟨k, hk, rfl, hF, hX⟩ := hrel
          clear hF0 HX hx1 hx2
          obtain ⟨hx1, hx2⟩ := hX.out
          by_cases hlt : k < n
          · obtain ⟨u, hcl, hfz⟩ := hF.cell hlt
            have hfk := HFK.out k
            have HFk := Lib.hid hfk
            clear hfk hx2
            go_wp2
            go_roundw
            case rel => exact ⟨k + 1, by omega, by go_num, hF.put HFk.out, XC.put hX _ _⟩
            case measure => simp [intOf]; omega
          · have hkl : n = k := by omega
            subst hkl
            have hown := hF.own
            rw [upto_end] at hown
            go_wp2
            go_ret
            exact ⟨_, rfl, by rw [HP.out]; exact hown, hF.bel, by simp⟩
      -- 2
      · have HP : Hid (placesL bits n lp ⟨2, m⟩ a b = (List.range n).map (place1 (bits m) ⟨2, m⟩ n lp a b)) := by show _ = _; simp [placesL]
        have hF0 : Fill w wo (w.heap.size + 1) n (place1 (bits m) ⟨2, m⟩ n lp a b) 0 := ⟨by rw [upto_zero]; exact own_base hown1' (by omega), hbw⟩
        have hFk : ∀ k, place1 (bits m) ⟨2, m⟩ n lp a b k = false := fun k => by simp [place1]
        have HFK := Lib.hid hFk
        generalize place1 (bits m) ⟨2, m⟩ n lp a b = F at *
        have HX := Lib.hid (And.intro hx1 hx2)
        clear hFk hsy hy hown1'
        go_wp2
        go_loopw [14] (fun i wi => ∃ k : Nat, k ≤ n ∧ i = .int .i64 k ∧ Fill w wi (w.heap.size + 1) n F k ∧ XC w wi 2 m) (fun i _ => n - (intOf i).toNat)
        case atStart => exact ⟨0, by omega, rfl, hF0, HX⟩
        case round =>
          obtain ⟨k, hk, rfl, hF, hX⟩ := hrel
          clear hF0 HX hx1 hx2
          obtain ⟨hx1, hx2⟩ := hX.out
          by_cases hlt : k < n
          · obtain ⟨u, hcl, hfz⟩ := hF.cell hlt
            have hfk := HFK.out k
            have HFk := Lib.hid hfk
            clear hfk hx2
            go_wp2
            go_roundw
            case rel => exact ⟨k + 1, by omega, by go_num, hF.skip HFk.out, hX⟩
            case measure => simp [intOf]; omega
          · have hkl : n = k := by omega
            subst hkl
            have hown := hF.own
            rw [upto_end] at hown
            go_wp2
            go_ret
            exact ⟨_, rfl, by rw [HP.out]; exact hown, hF.bel, by simp⟩
      -- 3
      · have HP : Hid (placesL bits n lp ⟨3, m⟩ a b = (List.range n).map (place1 (bits m) ⟨3, m⟩ n lp a b)) := by show _ = _; simp [placesL]
        have hF0 : Fill w wo (w.heap.size + 1) n (place1 (bits m) ⟨3, m⟩ n lp a b) 0 := ⟨by rw [upto_zero]; exact own_base hown1' (by omega), hbw⟩
        have hFk : ∀ k, place1 (bits m) ⟨3, m⟩ n lp a b k = (Go.bits .and .u64 (sets.getD k 0 / 2 ^ m.toNat) 1 == 1) := fun k => by rw [← HBITS.out]; simp [place1]
        have HFK := Lib.hid hFk
        generalize place1 (bits m) ⟨3, m⟩ n lp a b = F at *
        have HX := Lib.hid (And.intro hx1 hx2)
        clear hFk hsy hy hown1'
        obtain ⟨hm0, hm8⟩ := hx3 rfl
        go_wp2
        go_loopw [14] (fun i wi => ∃ k : Nat, k ≤ n ∧ i = .int .i64 k ∧ Fill w wi (w.heap.size + 1) n F k ∧ XC w wi 3 m) (fun i _ => n - (intOf i).toNat)
        case atStart => exact ⟨0, by omega, rfl, hF0, HX⟩
        case round =>
          obtain ⟨k, hk, rfl, hF, hX⟩ := hrel
          clear hF0 HX hx1 hx2
          obtain ⟨hx1, hx2⟩ := hX.out
          by_cases hlt : k < n
          · obtain ⟨u, hcl, hfz⟩ := hF.cell hlt
            obtain ⟨b1, o1, rfl, _, hc1⟩ := (hs.rd.below hF.bel hB).at_ (ucells_at (l := sets) (i := k) (by have := HN.out; omega))
            have hfk := HFK.out k
            generalize sets.getD k 0 = sk at *
            have HFk := Lib.hid hfk
            clear hfk
            go_wp2
            go_big_region
            go_wp2
            go_roundw
            case rel => exact ⟨k + 1, by omega, by go_num, (hF.put HFk.out).drew, (XC.put hX k (.bool (Go.bits .and .u64 (sk / 2 ^ m.toNat) 1 == 1)))⟩
            case measure => simp [intOf]; omega
          · have hkl : n = k := by omega
            subst hkl
            have hown := hF.own
            rw [upto_end] at hown
            go_wp2
            go_ret
            exact ⟨_, rfl, by rw [HP.out]; exact hown, hF.bel, by simp⟩
      -- 4
      · obtain rfl : n = n1 := (ha (by decide)).symm
        have HP : Hid (placesL bits n lp ⟨4, m⟩ a b = (List.range n).map (place1 (bits m) ⟨4, m⟩ n lp a b)) := by show _ = _; simp [placesL]
        have hF0 : Fill w wo (w.heap.size + 1) n (place1 (bits m) ⟨4, m⟩ n lp a b) 0 := ⟨by rw [upto_zero]; exact own_base hown1' (by omega), hbw⟩
        have hFk : ∀ k, place1 (bits m) ⟨4, m⟩ n lp a b k = !a.getD k false := fun k => by simp [place1]
        have HFK := Lib.hid hFk
        generalize place1 (bits m) ⟨4, m⟩ n lp a b = F at *
        have HX := Lib.hid (And.intro hx1 hx2)
        clear hFk hsy hy hown1'
        go_wp2
        go_loopw [14] (fun i wi => ∃ k : Nat, k ≤ n ∧ i = .int .i64 k ∧ Fill w wi (w.heap.size + 1) n F k ∧ XC w wi 4 m) (fun i _ => n - (intOf i).toNat)
        case atStart => exact ⟨0, by omega, rfl, hF0, HX⟩
        case round =>
          obtain ⟨k, hk, rfl, hF, hX⟩ := hrel
          clear hF0 HX hx1 hx2
          obtain ⟨hx1, hx2⟩ := hX.out
          by_cases hlt : k < n
          · obtain ⟨u, hcl, hfz⟩ := hF.cell hlt
            obtain ⟨b1, o1, rfl, _, hc1⟩ := (h1.rd.below hF.bel hB1).at_ (bcells_at (l := a) (i := k) (by have := HN1.out; omega))
            have hfk := HFK.out k
            generalize a.getD k false = xa at *
            have HFk := Lib.hid hfk
            clear hfk hx2
            go_wp2
            go_roundw
            case rel => exact ⟨k + 1, by omega, by go_num, hF.put HFk.out, XC.put hX _ _⟩
            case measure => simp [intOf]; omega
          · have hkl : n = k := by omega
            subst hkl
            have hown := hF.own
            rw [upto_end] at hown
            go_wp2
            go_ret
            exact ⟨_, rfl, by rw [HP.out]; exact hown, hF.bel, by simp⟩
      -- 5
      · obtain rfl : n = n1 := (ha (by decide)).symm
        obtain rfl : n = n2 := (hb (by decide)).symm
        have HP : Hid (placesL bits n lp ⟨5, m⟩ a b = (List.range n).map (place1 (bits m) ⟨5, m⟩ n lp a b)) := by show _ = _; simp [placesL]
        have hF0 : Fill w wo (w.heap.size + 1) n (place1 (bits m) ⟨5, m⟩ n lp a b) 0 := ⟨by rw [upto_zero]; exact own_base hown1' (by omega), hbw⟩
        have hFk : ∀ k, place1 (bits m) ⟨5, m⟩ n lp a b k = (a.getD k false && b.getD k false) := fun k => by simp [place1]
        have HFK := Lib.hid hFk
        generalize place1 (bits m) ⟨5, m⟩ n lp a b = F at *
        have HX := Lib.hid (And.intro hx1 hx2)
        clear hFk hsy hy hown1'
        go_wp2
        go_loopw [14] (fun i wi => ∃ k : Nat, k ≤ n ∧ i = .int .i64 k ∧ Fill w wi (w.heap.size + 1) n F k ∧ XC w wi 5 m) (fun i _ => n - (intOf i).toNat)
        case atStart => exact ⟨0, by omega, rfl, hF0, HX⟩
        case round =>
          obtain ⟨k, hk, rfl, hF, hX⟩ := hrel
          clear hF0 HX hx1 hx2
          obtain ⟨hx1, hx2⟩ := hX.out
          by_cases hlt : k < n
          · obtain ⟨u, hcl, hfz⟩ := hF.cell hlt
            obtain ⟨b1, o1, rfl, _, hc1⟩ := (h1.rd.below hF.bel hB1).at_ (bcells_at (l := a) (i := k) (by have := HN1.out; omega))
            obtain ⟨b2, o2, rfl, _, hc2⟩ := (h2.rd.below hF.bel hB2).at_ (bcells_at (l := b) (i := k) (by have := HN2.out; omega))
            have hfk := HFK.out k
            generalize a.getD k false = xa at *
            generalize b.getD k false = xb at *
            have HFk := Lib.hid hfk
            clear hfk hx2
            cases xa
            all_goals
              go_wp2
              go_roundw
              case rel => exact ⟨k + 1, by omega, by go_num, hF.put (by rw [HFk.out]; rfl), XC.put hX _ _⟩
              case measure => simp [intOf]; omega
          · have hkl : n = k := by omega
            subst hkl
            have hown := hF.own
            rw [upto_end] at hown
            go_wp2
            go_ret
            exact ⟨_, rfl, by rw [HP.out]; exact hown, hF.bel, by simp⟩
      -- 6
      · obtain rfl : n = n1 := (ha (by decide)).symm
        obtain rfl : n = n2 := (hb (by decide)).symm
        have HP : Hid (placesL bits n lp ⟨6, m⟩ a b = (List.range n).map (place1 (bits m) ⟨6, m⟩ n lp a b)) := by show _ = _; simp [placesL]
        have hF0 : Fill w wo (w.heap.size + 1) n (place1 (bits m) ⟨6, m⟩ n lp a b) 0 := ⟨by rw [upto_zero]; exact own_base hown1' (by omega), hbw⟩
        have hFk : ∀ k, place1 (bits m) ⟨6, m⟩ n lp a b k = (a.getD k false || b.getD k false) := fun k => by simp [place1]
        have HFK := Lib.hid hFk
        generalize place1 (bits m) ⟨6, m⟩ n lp a b = F at *
        have HX := Lib.hid (And.intro hx1 hx2)
        clear hFk hsy hy hown1'
        go_wp2
        go_loopw [14] (fun i wi => ∃ k : Nat, k ≤ n ∧ i = .int .i64 k ∧ Fill w wi (w.heap.size + 1) n F k ∧ XC w wi 6 m) (fun i _ => n - (intOf i).toNat)
        case atStart => exact ⟨0, by omega, rfl, hF0, HX⟩
        case round =>
          obtain ⟨k, hk, rfl, hF, hX⟩ := hrel
          clear hF0 HX hx1 hx2
          obtain ⟨hx1, hx2⟩ := hX.out
          by_cases hlt : k < n
          · obtain ⟨u, hcl, hfz⟩ := hF.cell hlt
            obtain ⟨b1, o1, rfl, _, hc1⟩ := (h1.rd.below hF.bel hB1).at_ (bcells_at (l := a) (i := k) (by have := HN1.out; omega))
            obtain ⟨b2, o2, rfl, _, hc2⟩ := (h2.rd.below hF.bel hB2).at_ (bcells_at (l := b) (i := k) (by have := HN2.out; omega))
            have hfk := HFK.out k
            generalize a.getD k false = xa at *
            generalize b.getD k false = xb at *
            have HFk := Lib.hid hfk
            clear hfk hx2
            cases xa
            all_goals
              go_wp2
              go_roundw
              case rel => exact ⟨k + 1, by omega, by go_num, hF.put (by rw [HFk.out]; rfl), XC.put hX _ _⟩
              case measure => simp [intOf]; omega
          · have hkl : n = k := by omega
            subst hkl
            have hown := hF.own
            rw [upto_end] at hown
            go_wp2
            go_ret
            exact ⟨_, rfl, by rw [HP.out]; exact hown, hF.bel, by simp⟩
      -- 7
      · obtain rfl : n = n1 := (ha (by decide)).symm
        obtain rfl : n = n2 := (hb (by decide)).symm
        have HP : Hid (placesL bits n lp ⟨7, m⟩ a b = (List.range n).map (place1 (bits m) ⟨7, m⟩ n lp a b)) := by show _ = _; simp [placesL]
        have hF0 : Fill w wo (w.heap.size + 1) n (place1 (bits m) ⟨7, m⟩ n lp a b) 0 := ⟨by rw [upto_zero]; exact own_base hown1' (by omega), hbw⟩
        have hFk : ∀ k, place1 (bits m) ⟨7, m⟩ n lp a b k = (!a.getD k false || b.getD k false) := fun k => by simp [place1]
        have HFK := Lib.hid hFk
        generalize place1 (bits m) ⟨7, m⟩ n lp a b = F at *
        have HX := Lib.hid (And.intro hx1 hx2)
        clear hFk hsy hy hown1'
        go_wp2
        go_loopw [14] (fun i wi => ∃ k : Nat, k ≤ n ∧ i = .int .i64 k ∧ Fill w wi (w.heap.size + 1) n F k ∧ XC w wi 7 m) (fun i _ => n - (intOf i).toNat)
        case atStart => exact ⟨0, by omega, rfl, hF0, HX⟩
        case round =>
          obtain ⟨k, hk, rfl, hF, hX⟩ := hrel
          clear hF0 HX hx1 hx2
          obtain ⟨hx1, hx2⟩ := hX.out
          by_cases hlt : k < n
          · obtain ⟨u, hcl, hfz⟩ := hF.cell hlt
            obtain ⟨b1, o1, rfl, _, hc1⟩ := (h1.rd.below hF.bel hB1).at_ (bcells_at (l := a) (i := k) (by have := HN1.out; omega))
            obtain ⟨b2, o2, rfl, _, hc2⟩ := (h2.rd.below hF.bel hB2).at_ (bcells_at (l := b) (i := k) (by have := HN2.out; omega))
            have hfk := HFK.out k
            generalize a.getD k false = xa at *
            generalize b.getD k false = xb at *
            have HFk := Lib.hid hfk
            clear hfk hx2
            cases xa
            all_goals
              go_wp2
              go_roundw
              case rel => exact ⟨k + 1, by omega, by go_num, hF.put (by rw [HFk.out]; rfl), XC.put hX _ _⟩
              case measure => simp [intOf]; omega
          · have hkl : n = k := by omega
            subst hkl
            have hown := hF.own
            rw [upto_end] at hown
            go_wp2
            go_ret
            exact ⟨_, rfl, by rw [HP.out]; exact hown, hF.bel, by simp⟩
      -- 8
      · obtain rfl : n = n1 := (ha (by decide)).symm
        have HP : Hid (placesL bits n lp ⟨8, m⟩ a b = (List.range n).map (place1 (bits m) ⟨8, m⟩ n lp a b)) := by show _ = _; simp [placesL]
        have hF0 : Fill w wo (w.heap.size + 1) n (place1 (bits m) ⟨8, m⟩ n lp a b) 0 := ⟨by rw [upto_zero]; exact own_base hown1' (by omega), hbw⟩
        have hFk : ∀ k, place1 (bits m) ⟨8, m⟩ n lp a b k = a.getD (nx lp n k) false := fun k => by simp [place1]
        have HFK := Lib.hid hFk
        generalize place1 (bits m) ⟨8, m⟩ n lp a b = F at *
        have HX := Lib.hid (And.intro hx1 hx2)
        clear hFk hsy hy hown1'
        go_wp2
        go_loopw [14] (fun i wi => ∃ k : Nat, k ≤ n ∧ i = .int .i64 k ∧ Fill w wi (w.heap.size + 1) n F k ∧ XC w wi 8 m) (fun i _ => n - (intOf i).toNat)
        case atStart => exact ⟨0, by omega, rfl, hF0, HX⟩
        case round =>
          obtain ⟨k, hk, rfl, hF, hX⟩ := hrel
          clear hF0 HX hx1 hx2
          obtain ⟨hx1, hx2⟩ := hX.out
          by_cases hlt : k < n
          · obtain ⟨u, hcl, hfz⟩ := hF.cell hlt
            obtain ⟨b1, o1, rfl, _, hc1⟩ := (h1.rd.below hF.bel hB1).at_ (bcells_at (l := a) (i := nx lp n k) (by have := HN1.out; have := nx_lt (i := k) hlp; omega))
            have hfk := HFK.out k
            generalize a.getD (nx lp n k) false = xa at *
            have HFk := Lib.hid hfk
            clear hfk hx2
            have hnx : nx lp n k < n := nx_lt hlp
            go_wp2_with (first | (go_at_call 57; refine (next_any k lp n _ (by omega)).mono ?_; rintro e w' ⟨rfl, rfl⟩))
            go_roundw
            case rel => exact ⟨k + 1, by omega, by go_num, hF.put HFk.out, XC.put hX _ _⟩
            case measure => simp [intOf]; omega
          · have hkl : n = k := by omega
            subst hkl
            have hown := hF.own
            rw [upto_end] at hown
            go_wp2
            go_ret
            exact ⟨_, rfl, by rw [HP.out]; exact hown, hF.bel, by simp⟩
      -- 9
      · obtain rfl : n = n1 := (ha (by decide)).symm
        obtain rfl : n = n2 := (hb (by decide)).symm
        have HP : Hid (placesL bits n lp ⟨9, m⟩ a b = untL lp a b) := by show _ = _; simp [placesL]
        go_wp2_with fail
        refine (until_any A1 A2 n c1 n c2 a b lp wo B1 B2 HN1.out HN2.out h1' h2' (by omega) (by omega) (by have := HN1.out; omega) (by have := HN1.out; have := HN2.out; omega) (by have := HN1.out; omega)).mono ?_
        rintro e w3 ⟨v3, rfl, hown3, hb3, hne3⟩
        go_wp2
        go_ret
        exact ⟨_, rfl, by rw [HP.out]; exact own_base hown3 hzr, hbw.trans (hb3.mono hzr), hne3⟩
      -- 10
      · obtain rfl : n = n1 := (ha (by decide)).symm
        obtain rfl : n = n2 := (hb (by decide)).symm
        have HP : Hid (placesL bits n lp ⟨10, m⟩ a b = flipL (untL lp (flipL a) (flipL b))) := by show _ = _; simp [placesL]
        have hla : n = (flipL a).length := by rw [flipL_len]; exact HN1.out
        have hlb : n = (flipL b).length := by rw [flipL_len]; exact HN2.out
        have hlu : n = (untL lp (flipL a) (flipL b)).length := by rw [untL_len, ← hla]
        have HLA := Lib.hid hla
        have HLB := Lib.hid hlb
        have HLU := Lib.hid hlu
        clear hla hlb hlu
        go_wp2_with fail
        refine (flip_any A1 n c1 a wo B1 HN1.out h1' (by omega) (by have := HN1.out; omega)).mono ?_
        rintro e w3 ⟨v3, rfl, hown3, hb3, hne3⟩
        have hz3 := hb3.size
        obtain ⟨A3, c3, rfl, hs3⟩ := own_sl hown3
        go_wp2_with fail
        refine (flip_any A2 n c2 b w3 B2 HN2.out (h2'.below hb3 (by omega)) (by omega) (by have := HN2.out; omega)).mono ?_
        rintro e w4 ⟨v4, rfl, hown4, hb4, hne4⟩
        have hz4 := hb4.size
        obtain ⟨A4, c4, rfl, hs4⟩ := own_sl hown4
        go_wp2_with fail
        refine (until_any A3 A4 n c3 n c4 (flipL a) (flipL b) lp w4 _ _ HLA.out HLB.out (hs3.below hb4 (Nat.le_refl _)) hs4 hz4 (Nat.le_refl _) (by have := HLA.out; omega) (by have := HLA.out; have := HLB.out; omega) (by have := HLA.out; omega)).mono ?_
        rintro e w5 ⟨v5, rfl, hown5, hb5, hne5⟩
        have hz5 := hb5.size
        obtain ⟨A5, c5, rfl, hs5⟩ := own_sl hown5
        go_wp2_with fail
        refine (flip_any A5 n c5 _ w5 _ HLU.out hs5 (Nat.le_refl _) (by have := HLU.out; omega)).mono ?_
        rintro e w6 ⟨v6, rfl, hown6, hb6, hne6⟩
        go_wp2
        go_ret
        refine ⟨_, rfl, by rw [HP.out]; exact own_base hown6 (by omega), (((hbw.trans (hb3.mono hzr)).trans (hb4.mono (by omega))).trans (hb5.mono (by omega))).trans (hb6.mono (by omega)), hne6.trans ?_⟩
        simp only [iff_false]
        intro h0
        have h3 := congrArg List.length h0
        rw [← HLU.out] at h3
        simp only [List.length_nil] at h3
        omega
      -- 11
      · obtain rfl : n = n1 := (ha (by decide)).symm
        have HP : Hid (placesL bits n lp ⟨11, m⟩ a b = untL lp (yesL n) a) := by show _ = _; simp [placesL]
        have HLY : Hid (n = (yesL n).length) := by show _ = _; rw [yesL_len]
        go_wp2_with fail
        refine (until_any _ A1 n n n c1 (yesL n) a lp wo _ B1 HLY.out HN1.out hsy h1' (Nat.le_refl _) (by omega) (by have := HLY.out; omega) (by have := HLY.out; have := HN1.out; omega) (by have := HLY.out; omega)).mono ?_
        rintro e w3 ⟨v3, rfl, hown3, hb3, hne3⟩
        go_wp2
        go_ret
        exact ⟨_, rfl, by rw [HP.out]; exact own_base hown3 hzr, hbw.trans (hb3.mono hzr), hne3⟩
      -- 12
      · obtain rfl : n = n1 := (ha (by decide)).symm
        have HP : Hid (placesL bits n lp ⟨12, m⟩ a b = flipL (untL lp (yesL n) (flipL a))) := by show _ = _; simp [placesL]
        have HLY : Hid (n = (yesL n).length) := by show _ = _; rw [yesL_len]
        have hla : n = (flipL a).length := by rw [flipL_len]; exact HN1.out
        have hlu : n = (untL lp (yesL n) (flipL a)).length := by rw [untL_len, ← HLY.out]
        have HLA := Lib.hid hla
        have HLU := Lib.hid hlu
        clear hla hlu
        go_wp2_with fail
        refine (flip_any A1 n c1 a wo B1 HN1.out h1' (by omega) (by have := HN1.out; omega)).mono ?_
        rintro e w3 ⟨v3, rfl, hown3, hb3, hne3⟩
        have hz3 := hb3.size
        obtain ⟨A3, c3, rfl, hs3⟩ := own_sl hown3
        go_wp2_with fail
        refine (until_any _ A3 n n n c3 (yesL n) (flipL a) lp w3 _ _ HLY.out HLA.out (hsy.below hb3 (Nat.le_refl _)) hs3 hz3 (Nat.le_refl _) (by have := HLY.out; omega) (by have := HLY.out; have := HLA.out; omega) (by have := HLY.out; omega)).mono ?_
        rintro e w5 ⟨v5, rfl, hown5, hb5, hne5⟩
        have hz5 := hb5.size
        obtain ⟨A5, c5, rfl, hs5⟩ := own_sl hown5
        go_wp2_with fail
        refine (flip_any A5 n c5 _ w5 _ HLU.out hs5 (Nat.le_refl _) (by have := HLU.out; omega)).mono ?_
        rintro e w6 ⟨v6, rfl, hown6, hb6, hne6⟩
        go_wp2
        go_ret
        refine ⟨_, rfl, by rw [HP.out]; exact own_base hown6 (by omega), ((hbw.trans (hb3.mono hzr)).trans (hb5.mono (by omega))).trans (hb6.mono (by omega)), hne6.trans ?_⟩
        simp only [iff_false]
        intro h0
        have h3 := congrArg List.length h0
        rw [← HLU.out] at h3
        simp only [List.length_nil] at h3
        omega
end Go.Proofs.Ytedohmcnjlhdnaa
