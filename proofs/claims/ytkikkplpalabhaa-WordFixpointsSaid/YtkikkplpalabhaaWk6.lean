/- The walks of layer 27: the closures of truth. -/
import Derived.Test.YtkikkplpalabhaaWk3
import Derived.Deep.RegionHeld3
namespace Go.Proofs.Ytkikkplpalabhaa
open Go.RowKit

def wbit (st lo : List Int) (m : Int) (k : Nat) : Bool := (Go.bits .and .u64 (seqW st lo k / 2 ^ m.toNat) 1 == 1)
/-- A box that holds a row of bools. -/
structure BBox (w : World) (bx : Nat) (n : Nat) (l : List Bool) : Prop where
  ex : ∃ A c, w.cell? ⟨bx, 0, none⟩ = some (.slice A n c) ∧ Sl w w.heap.size 1 A n c (bcells l) ∧ bx < w.heap.size
theorem BBox.below {w w' : World} {bx n : Nat} {l : List Bool} (h : BBox w bx n l) (hb : Below w.heap.size w w') : BBox w' bx n l := by
  obtain ⟨A, c, h1, h2, h3⟩ := h.ex
  exact ⟨A, c, (hb.cell (p := ⟨bx, 0, none⟩) h3).trans h1, (h2.below hb (Nat.le_refl _)).up hb.size, Nat.lt_of_lt_of_le h3 hb.size⟩
theorem BBox.at_ {w : World} {bx n : Nat} {l : List Bool} (h : BBox w bx n l) {k : Nat} (hk : k < n) : ∃ b o c, w.cell? ⟨bx, 0, none⟩ = some (.slice (some ⟨b, o, none⟩) n c) ∧ w.cell? ⟨b, o + k, none⟩ = some (.bool (l.getD k false)) := by
  obtain ⟨A, c, h1, h2, h3⟩ := h.ex
  have hl : l.length = n := by have := h2.len; rw [bcells_len] at this; omega
  obtain ⟨b, o, rfl, _, hc⟩ := h2.rd.at_ (bcells_at (i := k) (l := l) (by omega))
  exact ⟨b, o, c, h1, hc⟩
/-- The boxes of a lasso and of a node. -/
def LBox (w : World) (lb : Nat) (A1 A2 : Option Addr) (n1 c1 n2 c2 : Nat) : Prop :=
  lb < w.heap.size ∧ w.cell? ⟨lb, 0, none⟩ = some (.slice A1 n1 c1) ∧ w.cell? ⟨lb, 1, none⟩ = some (.slice A2 n2 c2) ∧ w.cell? ⟨lb, 2, none⟩ = some (.int .i64 ((n1 + n2 : Nat) : Int)) ∧ w.cell? ⟨lb, 3, none⟩ = some (.int .i64 (n1 : Int))
theorem LBox.below {w w' : World} {lb n1 c1 n2 c2 : Nat} {A1 A2 : Option Addr} (h : LBox w lb A1 A2 n1 c1 n2 c2) (hb : Below w.heap.size w w') : LBox w' lb A1 A2 n1 c1 n2 c2 :=
  ⟨Nat.lt_of_lt_of_le h.1 hb.size, (hb.cell (p := ⟨lb, 0, none⟩) h.1).trans h.2.1, (hb.cell (p := ⟨lb, 1, none⟩) h.1).trans h.2.2.1, (hb.cell (p := ⟨lb, 2, none⟩) h.1).trans h.2.2.2.1, (hb.cell (p := ⟨lb, 3, none⟩) h.1).trans h.2.2.2.2⟩
theorem t1_any (k : Nat) (w : World) : Calls Try.prog 91 #[.int .i64 (k : Int)] w (Tru w true) := by
  go_enter Try.func91, Try.ntmps91
  go_wp2
  go_ret
  exact ⟨rfl, Below.refl _ _⟩
set_option maxHeartbeats 1000000 in
theorem t2_any (k lb xb : Nat) (_op m : Int) (A1 A2 : Option Addr) (n1 c1 n2 c2 : Nat) (st lo : List Int) (w : World) (hL : LBox w lb A1 A2 n1 c1 n2 c2) (h : WRd w w.heap.size A1 A2 n1 c1 n2 c2 st lo) (hxb : xb < w.heap.size) (hx : w.cell? ⟨xb, 1, none⟩ = some (.int .i64 m)) (hm0 : 0 ≤ m) (hm8 : m < 8) (hl : n1 + n2 ≤ 60000) (hk : k ≤ 1000000) :
    Calls Try.prog 92 #[.int .i64 (k : Int), .pointer (some ⟨lb, 0, none⟩), .pointer (some ⟨xb, 0, none⟩)] w (Tru w (wbit st lo m k)) := by
  have hA := pAt_any A1 A2 n1 c1 n2 c2 st lo (k : Int) w.drew w.heap.size (h.below (Below.refl _ _).drew (Nat.le_refl _)) (Nat.le_refl _) hl (by omega)
  have e : atW st lo (k : Int) = seqW st lo k := by rw [atW, if_neg (by omega), Int.toNat_natCast]
  rw [e] at hA
  unfold wbit
  generalize seqW st lo k = x at *
  obtain ⟨hlb, l0, l1, _, _⟩ := hL
  have HA := Lib.hid hA
  have hm64 : m ≤ 64 := by omega
  clear hA e h
  go_enter Try.func92, Try.ntmps92
  go_wp2
  go_region_held3 (fun w' => w'.cell? ⟨lb, 0, none⟩ = some (.slice A1 n1 c1) ∧ w'.cell? ⟨lb, 1, none⟩ = some (.slice A2 n2 c2) ∧ w'.cell? ⟨xb, 1, none⟩ = some (.int .i64 m))
    (go_keep)
    (first
      | (go_at_call 34; refine Calls.mono HA.out ?_; rintro e w2 ⟨rfl, hb2⟩; have hb2' : Below w.heap.size w w2 := below_undrew hb2; have k0 := (hb2'.cell (p := ⟨lb, 0, none⟩) hlb).trans l0; have k1 := (hb2'.cell (p := ⟨lb, 1, none⟩) hlb).trans l1; have k2 := (hb2'.cell (p := ⟨xb, 1, none⟩) hxb).trans hx))
  go_wp2
  go_ret
  exact ⟨rfl, hb2'⟩
set_option maxHeartbeats 400000 in
theorem t3_any (k ab n : Nat) (a : List Bool) (w : World) (ha : BBox w ab n a) (hk : k < n) : Calls Try.prog 93 #[.int .i64 (k : Int), .pointer (some ⟨ab, 0, none⟩)] w (Tru w (!a.getD k false)) := by
  obtain ⟨b, o, c, h1, h2⟩ := ha.at_ hk
  clear ha
  generalize a.getD k false = x at *
  go_enter Try.func93, Try.ntmps93
  go_wp2
  go_ret
  exact ⟨rfl, Below.refl _ _⟩
set_option maxHeartbeats 400000 in
theorem t4_any (k ab bb n : Nat) (a b : List Bool) (w : World) (ha : BBox w ab n a) (hb : BBox w bb n b) (hk : k < n) : Calls Try.prog 94 #[.int .i64 (k : Int), .pointer (some ⟨ab, 0, none⟩), .pointer (some ⟨bb, 0, none⟩)] w (Tru w (a.getD k false && b.getD k false)) := by
  obtain ⟨b1, o1, c1, h1, h2⟩ := ha.at_ hk
  obtain ⟨b2, o2, c2, h3, h4⟩ := hb.at_ hk
  clear ha hb
  generalize a.getD k false = x at *
  generalize b.getD k false = y at *
  cases x <;> cases y
  all_goals
    go_enter Try.func94, Try.ntmps94
    go_wp2
    go_ret
    exact ⟨rfl, Below.refl _ _⟩
set_option maxHeartbeats 400000 in
theorem t5_any (k ab bb n : Nat) (a b : List Bool) (w : World) (ha : BBox w ab n a) (hb : BBox w bb n b) (hk : k < n) : Calls Try.prog 95 #[.int .i64 (k : Int), .pointer (some ⟨ab, 0, none⟩), .pointer (some ⟨bb, 0, none⟩)] w (Tru w (a.getD k false || b.getD k false)) := by
  obtain ⟨b1, o1, c1, h1, h2⟩ := ha.at_ hk
  obtain ⟨b2, o2, c2, h3, h4⟩ := hb.at_ hk
  clear ha hb
  generalize a.getD k false = x at *
  generalize b.getD k false = y at *
  cases x <;> cases y
  all_goals
    go_enter Try.func95, Try.ntmps95
    go_wp2
    go_ret
    exact ⟨rfl, Below.refl _ _⟩
set_option maxHeartbeats 400000 in
theorem t6_any (k ab bb n : Nat) (a b : List Bool) (w : World) (ha : BBox w ab n a) (hb : BBox w bb n b) (hk : k < n) : Calls Try.prog 96 #[.int .i64 (k : Int), .pointer (some ⟨ab, 0, none⟩), .pointer (some ⟨bb, 0, none⟩)] w (Tru w (!a.getD k false || b.getD k false)) := by
  obtain ⟨b1, o1, c1, h1, h2⟩ := ha.at_ hk
  obtain ⟨b2, o2, c2, h3, h4⟩ := hb.at_ hk
  clear ha hb
  generalize a.getD k false = x at *
  generalize b.getD k false = y at *
  cases x <;> cases y
  all_goals
    go_enter Try.func96, Try.ntmps96
    go_wp2
    go_ret
    exact ⟨rfl, Below.refl _ _⟩
set_option maxHeartbeats 1000000 in
theorem t7_any (k ab lb : Nat) (a : List Bool) (A1 A2 : Option Addr) (n1 c1 n2 c2 : Nat) (w : World) (ha : BBox w ab (n1 + n2) a) (hL : LBox w lb A1 A2 n1 c1 n2 c2) (hl : n1 + n2 ≤ 60000) (h2 : 0 < n2) (hk : k < n1 + n2) :
    Calls Try.prog 97 #[.int .i64 (k : Int), .pointer (some ⟨ab, 0, none⟩), .pointer (some ⟨lb, 0, none⟩)] w (Tru w (a.getD (nx n1 (n1 + n2) k) false)) := by
  have hnx := nx_lt (lp := n1) (n := n1 + n2) (i := k) (by omega)
  obtain ⟨b, o, c, h1, h3⟩ := ha.at_ hnx
  obtain ⟨_, _, _, _, hal⟩ := ha.ex
  have hbl := World.block_lt_of_cell? _ _ h3
  have HN := pnext_any A1 A2 n1 c1 n2 c2 k w.drew hl hk
  unfold lassoV at HN
  obtain ⟨hlb, l0, l1, l2, l3⟩ := hL
  have HNX := Lib.hid HN
  clear HN ha
  generalize nx n1 (n1 + n2) k = m at *
  generalize a.getD m false = x at *
  generalize n1 + n2 = N at *
  go_enter Try.func97, Try.ntmps97
  go_wp2
  go_region_held3 (fun w' => w'.cell? ⟨lb, 0, none⟩ = some (.slice A1 n1 c1) ∧ w'.cell? ⟨lb, 1, none⟩ = some (.slice A2 n2 c2) ∧ w'.cell? ⟨lb, 2, none⟩ = some (.int .i64 (N : Int)) ∧ w'.cell? ⟨lb, 3, none⟩ = some (.int .i64 (n1 : Int)) ∧ w'.cell? ⟨ab, 0, none⟩ = some (.slice (some ⟨b, o, none⟩) N c) ∧ w'.cell? ⟨b, o + m, none⟩ = some (.bool x))
    (go_keep)
    (first
      | (go_at_call 98; refine Calls.mono HNX.out ?_; rintro e w2 ⟨rfl, hb2⟩; have hb2' : Below w.heap.size w w2 := below_undrew hb2; have k0 := (hb2'.cell (p := ⟨lb, 0, none⟩) hlb).trans l0; have k1 := (hb2'.cell (p := ⟨lb, 1, none⟩) hlb).trans l1; have k2 := (hb2'.cell (p := ⟨lb, 2, none⟩) hlb).trans l2; have k3 := (hb2'.cell (p := ⟨lb, 3, none⟩) hlb).trans l3; have k4 := (hb2'.cell (p := ⟨ab, 0, none⟩) hal).trans h1; have k5 := (hb2'.cell (p := ⟨b, o + m, none⟩) hbl).trans h3))
  go_wp2
  go_ret
  exact ⟨rfl, hb2'⟩
set_option maxHeartbeats 400000 in
theorem t8_any (k ab bb n : Nat) (a b : List Bool) (z : Bool) (w : World) (ha : BBox w ab n a) (hb : BBox w bb n b) (hk : k < n) : Calls Try.prog 100 #[.int .i64 (k : Int), .bool z, .pointer (some ⟨bb, 0, none⟩), .pointer (some ⟨ab, 0, none⟩)] w (Tru w (ofU a b k z)) := by
  obtain ⟨b1, o1, c1, h1, h2⟩ := ha.at_ hk
  obtain ⟨b2, o2, c2, h3, h4⟩ := hb.at_ hk
  clear ha hb
  unfold ofU
  generalize a.getD k false = x at *
  generalize b.getD k false = y at *
  cases x <;> cases y
  all_goals
    go_enter Try.func100, Try.ntmps100
    go_wp2
    go_ret
    exact ⟨by simp, Below.refl _ _⟩
set_option maxHeartbeats 400000 in
theorem t9_any (k ab bb n : Nat) (a b : List Bool) (z : Bool) (w : World) (ha : BBox w ab n a) (hb : BBox w bb n b) (hk : k < n) : Calls Try.prog 101 #[.int .i64 (k : Int), .bool z, .pointer (some ⟨bb, 0, none⟩), .pointer (some ⟨ab, 0, none⟩)] w (Tru w (ofR a b k z)) := by
  obtain ⟨b1, o1, c1, h1, h2⟩ := ha.at_ hk
  obtain ⟨b2, o2, c2, h3, h4⟩ := hb.at_ hk
  clear ha hb
  unfold ofR
  generalize a.getD k false = x at *
  generalize b.getD k false = y at *
  cases x <;> cases y
  all_goals
    go_enter Try.func101, Try.ntmps101
    go_wp2
    go_ret
    exact ⟨by simp, Below.refl _ _⟩
set_option maxHeartbeats 400000 in
theorem t10_any (k ab n : Nat) (a : List Bool) (z : Bool) (w : World) (ha : BBox w ab n a) (hk : k < n) : Calls Try.prog 102 #[.int .i64 (k : Int), .bool z, .pointer (some ⟨ab, 0, none⟩)] w (Tru w (ofF a k z)) := by
  obtain ⟨b1, o1, c1, h1, h2⟩ := ha.at_ hk
  clear ha
  unfold ofF
  generalize a.getD k false = x at *
  cases x
  all_goals
    go_enter Try.func102, Try.ntmps102
    go_wp2
    go_ret
    exact ⟨by simp, Below.refl _ _⟩
set_option maxHeartbeats 400000 in
theorem t11_any (k ab n : Nat) (a : List Bool) (z : Bool) (w : World) (ha : BBox w ab n a) (hk : k < n) : Calls Try.prog 103 #[.int .i64 (k : Int), .bool z, .pointer (some ⟨ab, 0, none⟩)] w (Tru w (ofG a k z)) := by
  obtain ⟨b1, o1, c1, h1, h2⟩ := ha.at_ hk
  clear ha
  unfold ofG
  generalize a.getD k false = x at *
  cases x
  all_goals
    go_enter Try.func103, Try.ntmps103
    go_wp2
    go_ret
    exact ⟨by simp, Below.refl _ _⟩
end Go.Proofs.Ytkikkplpalabhaa
