/- The walk of layer 28 (cover): split. -/
import Derived.Test.YtamhjgkigjpbhaaDoorZal
import Derived.Test.YtamhjgkigjpbhaaDoorCovR
import Derived.IntWalk
namespace Go.Proofs.YtamhjgkigjpbhaaDoor
open Go.RowKit

theorem wrap_pow8 {j : Nat} (hj : j < 8) : IntKind.u64.wrap (2 ^ j) = ((2 ^ j : Nat) : Int) := by
  have hp : 2 ^ j ≤ 2 ^ 7 := Nat.pow_le_pow_right (by omega) (by omega)
  have e2 : (2 : Int) ^ j = ((2 ^ j : Nat) : Int) := by simp
  rw [IntKind.wrap_u64, e2]
  generalize 2 ^ j = c at hp ⊢
  omega
theorem or_u64 {x y : Nat} (hx : x < 2 ^ 64) (hy : y < 2 ^ 64) : bits .or .u64 (x : Int) (y : Int) = ((x ||| y : Nat) : Int) := by
  have hor : x ||| y < 2 ^ 64 := Nat.or_lt_two_pow hx hy
  show IntKind.u64.wrap ((BitVec.ofInt 64 (x : Int) ||| BitVec.ofInt 64 (y : Int)).toNat : Int) = _
  rw [BitVec.toNat_or, BitVec.ofInt_natCast, BitVec.toNat_ofNat, BitVec.ofInt_natCast, BitVec.toNat_ofNat, Nat.mod_eq_of_lt hx, Nat.mod_eq_of_lt hy, IntKind.wrap_u64]
  omega
theorem and_u64' {x y : Nat} (hx : x < 2 ^ 64) (hy : y < 2 ^ 64) : bits .and .u64 (x : Int) (y : Int) = ((x &&& y : Nat) : Int) := by
  have hor : x &&& y < 2 ^ 64 := Nat.and_lt_two_pow _ hy
  show IntKind.u64.wrap ((BitVec.ofInt 64 (x : Int) &&& BitVec.ofInt 64 (y : Int)).toNat : Int) = _
  rw [BitVec.toNat_and, BitVec.ofInt_natCast, BitVec.toNat_ofNat, BitVec.ofInt_natCast, BitVec.toNat_ofNat, Nat.mod_eq_of_lt hx, Nat.mod_eq_of_lt hy, IntKind.wrap_u64]
  omega
/-- What split reads of a node. -/
structure NdF (f : List Nd) (j : Nat) : Prop where
  op : opAt f j = 1 ∨ opAt f j = 2 ∨ opAt f j = 3 ∨ opAt f j = 4 ∨ opAt f j = 5 ∨ opAt f j = 6 ∨ opAt f j = 8 ∨ opAt f j = 9 ∨ opAt f j = 10
  kid2 : opAt f j = 5 ∨ opAt f j = 6 ∨ opAt f j = 9 ∨ opAt f j = 10 → kids f j = ((leftOf f j : Int), (rightOf f j : Int)) ∧ leftOf f j < j ∧ rightOf f j < j
  kid1 : opAt f j = 8 → kids f j = ((leftOf f j : Int), -1) ∧ leftOf f j < j
  prop : opAt f j = 3 → (f.getD j ⟨0, 0⟩).n = (nAt f j : Int) ∧ nAt f j < 8
  lit : opAt f j = 4 → 1 ≤ j ∧ (f.getD (j - 1) ⟨0, 0⟩).n = (nAt f (j - 1) : Int) ∧ nAt f (j - 1) < 8
theorem ndF {f : List Nd} (hN : isN f = true) {j : Nat} (hj : j < f.length) : NdF f j := by
  obtain ⟨l, r, h⟩ := node_eq (bits := fun _ _ => false) (n := 1) (lp := 0) hN (by omega) (at_of hj)
  refine ⟨h.op, fun e => ?_, fun e => ?_, fun e => ?_, fun e => ?_⟩
  · obtain ⟨a, b, c, _⟩ := h.kid2 e
    unfold leftOf rightOf; rw [a]; simp; omega
  · obtain ⟨a, b, _⟩ := h.kid1 (.inr e)
    unfold leftOf; rw [a]; simp; omega
  · have := h.rng e
    unfold nAt; omega
  · obtain ⟨y, hy, hy3, h0, h8⟩ := h.lit e
    obtain ⟨_, _, el⟩ := h.kid1 (.inl e)
    have e' : f.getD (j - 1) ⟨0, 0⟩ = y := by rw [show j - 1 = l by omega, List.getD_eq_getElem?_getD, hy]; rfl
    unfold nAt; rw [e']; omega
/-- Ways in a row of their own. -/
def WaysAt (w : World) (ws : List Way) (v : Value) : Prop :=
  (ws = [] ∧ v = .slice none 0 0) ∨ ∃ g cs, v = .slice (some ⟨g, 0, none⟩) ws.length ws.length ∧ w.heap[g]? = some (.cells cs 100 (0, 0)) ∧
    ∀ (k : Nat) (x : Way), ws[k]? = some x → ∃ A1 c1 A2 c2 A3 c3, WR w x A1 c1 A2 c2 A3 c3 ∧ cs[k * 5]? = some (.int .u64 (x.need : Int)) ∧ cs[k * 5 + 1]? = some (.int .u64 (x.ban : Int)) ∧
      cs[k * 5 + 2]? = some (.slice A1 x.now.length c1) ∧ cs[k * 5 + 3]? = some (.slice A2 x.next.length c2) ∧ cs[k * 5 + 4]? = some (.slice A3 x.todo.length c3)
theorem WaysAt.keep {S : Nat → Prop} {w w' : World} {ws : List Way} {v : Value} (h : WaysAt w ws v) (ht : Tch S w w') (hb : Spares S w 4) (hi : Spares S w 3) (hw : Spares S w 100) : WaysAt w' ws v := by
  rcases h with h | ⟨g, cs, hv, hg, h⟩
  · exact .inl h
  · refine .inr ⟨g, cs, hv, ht.blk hg (hw _ _ hg), fun k x hk => ?_⟩
    obtain ⟨A1, c1, A2, c2, A3, c3, hr, h'⟩ := h k x hk
    exact ⟨A1, c1, A2, c2, A3, c3, hr.keep ht hb hi, h'⟩
def Splits (w : World) (ws : List Way) (en : Ending) (w' : World) : Prop := ∃ v, en = .returned v ∧ WaysAt w' ws v ∧ Below w.heap.size w w'
theorem splits_none {w w' : World} (hb : Below w.heap.size w w') : Splits w [] (.returned (.slice none 0 0)) w' := ⟨_, rfl, .inl ⟨rfl, rfl⟩, hb⟩
theorem splits_one {w w1 : World} {x : Way} {A1 A2 A3 : Option Addr} {c1 c2 c3 : Nat} (hb : Below w.heap.size w w1) (hr : WR w1 x A1 c1 A2 c2 A3 c3) {n1 n2 n3 : Nat} (e1 : n1 = x.now.length) (e2 : n2 = x.next.length) (e3 : n3 = x.todo.length) {a b : Int} (ea : a = (x.need : Int)) (eb : b = (x.ban : Int)) :
    Splits w [x] (.returned (.slice (some ⟨w1.heap.size, 0, none⟩) 1 1)) (w1.alloc (.cells #[.int .u64 a, .int .u64 b, .slice A1 n1 c1, .slice A2 n2 c2, .slice A3 n3 c3] 100)) := by
  subst e1 e2 e3 ea eb
  have hba : Below w1.heap.size w1 (w1.alloc (.cells #[.int .u64 (x.need : Int), .int .u64 (x.ban : Int), .slice A1 x.now.length c1, .slice A2 x.next.length c2, .slice A3 x.todo.length c3] 100)) := (Below.refl _ _).alloc (Nat.le_refl _) _
  refine ⟨_, rfl, .inr ⟨w1.heap.size, _, rfl, heap_alloc_new _ _, fun k y hk => ?_⟩, hb.trans (hba.mono hb.size)⟩
  match k, hk with
  | 0, hk => cases hk; exact ⟨A1, c1, A2, c2, A3, c3, hr.below hba, rfl, rfl, rfl, rfl, rfl⟩
theorem splits_two {w w1 : World} {x y : Way} {A1 A2 A3 : Option Addr} {c1 c2 c3 : Nat} {D1 D2 D3 : Option Addr} {d1 d2 d3 : Nat} (hb : Below w.heap.size w w1) (hr : WR w1 x A1 c1 A2 c2 A3 c3) (hr' : WR w1 y D1 d1 D2 d2 D3 d3)
    {n1 n2 n3 m1 m2 m3 : Nat} {a b a' b' : Int} (e1 : n1 = x.now.length) (e2 : n2 = x.next.length) (e3 : n3 = x.todo.length) (f1 : m1 = y.now.length) (f2 : m2 = y.next.length) (f3 : m3 = y.todo.length) (ea : a = (x.need : Int)) (eb : b = (x.ban : Int)) (ea' : a' = (y.need : Int)) (eb' : b' = (y.ban : Int)) :
    Splits w [x, y] (.returned (.slice (some ⟨w1.heap.size, 0, none⟩) 2 2)) (w1.alloc (.cells #[.int .u64 a, .int .u64 b, .slice A1 n1 c1, .slice A2 n2 c2, .slice A3 n3 c3,
      .int .u64 a', .int .u64 b', .slice D1 m1 d1, .slice D2 m2 d2, .slice D3 m3 d3] 100)) := by
  subst e1 e2 e3 f1 f2 f3 ea eb ea' eb'
  have hba : Below w1.heap.size w1 (w1.alloc (.cells #[.int .u64 (x.need : Int), .int .u64 (x.ban : Int), .slice A1 x.now.length c1, .slice A2 x.next.length c2, .slice A3 x.todo.length c3,
      .int .u64 (y.need : Int), .int .u64 (y.ban : Int), .slice D1 y.now.length d1, .slice D2 y.next.length d2, .slice D3 y.todo.length d3] 100)) := (Below.refl _ _).alloc (Nat.le_refl _) _
  refine ⟨_, rfl, .inr ⟨w1.heap.size, _, rfl, heap_alloc_new _ _, fun k z hk => ?_⟩, hb.trans (hba.mono hb.size)⟩
  match k, hk with
  | 0, hk => cases hk; exact ⟨A1, c1, A2, c2, A3, c3, hr.below hba, rfl, rfl, rfl, rfl, rfl⟩
  | 1, hk => cases hk; exact ⟨D1, d1, D2, d2, D3, d3, hr'.below hba, rfl, rfl, rfl, rfl, rfl⟩
theorem splits_drew {w w' : World} {ws : List Way} {en : Ending} (h : Splits w ws en w') : Splits w ws en w'.drew := by
  obtain ⟨v, hv, hw, hb⟩ := h
  have ht : Tch (fun _ => False) w' w'.drew := ⟨rfl, rfl, rfl, Nat.le_refl _, fun _ _ _ => rfl⟩
  exact ⟨v, hv, hw.keep ht (fun _ _ _ h => h) (fun _ _ _ h => h) (fun _ _ _ h => h), hb.drew⟩
/-- Numbers in a new row. -/
theorem new_ints (W : World) (ps : List Nat) (_hp : ps ≠ []) (hl : ps.length ≤ 1000) : Sl (W.alloc (.cells (icells (natI ps)).toArray 3)) (W.alloc (.cells (icells (natI ps)).toArray 3)).heap.size 1 (some ⟨W.heap.size, 0, none⟩) ps.length ps.length (icells (natI ps)) := by
  have h := heap_alloc_new W (.cells (icells (natI ps)).toArray 3)
  refine ⟨by simp [icells, natI], Nat.le_refl _, by unfold maxLen; omega, fun h => (by cases h), .inr ⟨W.heap.size, 0, rfl, by simp, fun j u hu => ?_⟩⟩
  rw [cell_of_row _ _ _ _ _ (0, 0) h]
  simpa using hu
set_option maxHeartbeats 8000000 in
set_option maxRecDepth 100000 in
theorem split1_any (f : List Nd) (x : Way) (A1 : Option Addr) (c1 : Nat) (A2 : Option Addr) (c2 : Nat) (A3 : Option Addr) (c3 : Nat) (Af : Option Addr) (cf j : Nat) (w : World) (B : Nat) (h : WR w x A1 c1 A2 c2 A3 c3) (hf : Sl w B 2 Af f.length cf (ncells f)) (hB : B ≤ w.heap.size) (hl : f.length ≤ 1000000)
    (hN : isN f = true) (hj : j < f.length) (hx : WOk f x) (_hn : x.need < 256) (_hb : x.ban < 256) (_ht : x.todo.length ≤ 1000000) (hop : opAt f j = 1) :
    Calls Tryd.prog 54 #[.agg #[.int .u64 (x.need : Int), .int .u64 (x.ban : Int), .slice A1 x.now.length c1, .slice A2 x.next.length c2, .slice A3 x.todo.length c3], .slice Af f.length cf, .int .i64 (j : Int)] w (Splits w (splitW f j x)) := by
  have HK := Lib.hid (fun (w' : World) (hb : Below w.heap.size w w') => Kids_any Af cf f (j : Int) w' B (hf.below hb hB) (Nat.le_trans hB hb.size) (by omega) ⟨by omega, by omega⟩)
  have hF := ndF hN hj
  have HR := Lib.hid h
  have HFS := Lib.hid hf
  have HX := Lib.hid hx
  have hcf := hf.cap
  obtain ⟨b, o, rfl, hbB, hc0, hc1⟩ := rd_nd hf.rd hj
  have hge : f[j] = f.getD j ⟨0, 0⟩ := by simp [List.getD, hj]
  rw [hge] at hc0 hc1
  have hb0 : Below w.heap.size w (w.alloc (.cells #[.int .u64 (x.need : Int), .int .u64 (x.ban : Int), .slice A1 x.now.length c1, .slice A2 x.next.length c2, .slice A3 x.todo.length c3] 100)) := (Below.refl _ _).alloc (Nat.le_refl _) _
  have hx0 := heap_alloc_new w (.cells #[.int .u64 (x.need : Int), .int .u64 (x.ban : Int), .slice A1 x.now.length c1, .slice A2 x.next.length c2, .slice A3 x.todo.length c3] 100)
  have hxz : (w.alloc (.cells #[.int .u64 (x.need : Int), .int .u64 (x.ban : Int), .slice A1 x.now.length c1, .slice A2 x.next.length c2, .slice A3 x.todo.length c3] 100)).heap.size = w.heap.size + 1 := by simp
  obtain ⟨W0, hW0⟩ : ∃ W0, w.alloc (.cells #[.int .u64 (x.need : Int), .int .u64 (x.ban : Int), .slice A1 x.now.length c1, .slice A2 x.next.length c2, .slice A3 x.todo.length c3] 100) = W0 := ⟨_, rfl⟩
  rw [hW0] at hb0 hx0 hxz
  have HW0 := Lib.hid hW0
  clear hW0 h hx hge
  change w.cell? ⟨b, o + j * 2, none⟩ = some (.int .i64 (opAt f j)) at hc0
  have hs : splitW f j x = [x] := by unfold splitW; rw [if_pos hop]
  rw [hs, hop] at *
  clear hF hs
  go_enter Tryd.func54, Tryd.ntmps54
  go_wp2_with fail
  rw [HW0.out]
  go_wp2_with fail
  refine Calls.mono (HK.out _ hb0) ?_
  rintro e w1 ⟨rfl, hb1⟩
  rw [hxz] at hb1
  have hz1 := hb1.size
  rw [hxz] at hz1
  have hb01 : Below w.heap.size w w1 := hb0.trans (hb1.mono (by omega))
  have q0 := (hb1.block w.heap.size (by omega)).trans hx0
  have k0 : w1.cell? ⟨w.heap.size, 0, none⟩ = some (.int .u64 (x.need : Int)) := by rw [cell_of_row _ _ 0 _ _ (0, 0) q0]; rfl
  have k1 : w1.cell? ⟨w.heap.size, 1, none⟩ = some (.int .u64 (x.ban : Int)) := by rw [cell_of_row _ _ 1 _ _ (0, 0) q0]; rfl
  have k2 : w1.cell? ⟨w.heap.size, 2, none⟩ = some (.slice A1 x.now.length c1) := by rw [cell_of_row _ _ 2 _ _ (0, 0) q0]; rfl
  have k3 : w1.cell? ⟨w.heap.size, 3, none⟩ = some (.slice A2 x.next.length c2) := by rw [cell_of_row _ _ 3 _ _ (0, 0) q0]; rfl
  have k4 : w1.cell? ⟨w.heap.size, 4, none⟩ = some (.slice A3 x.todo.length c3) := by rw [cell_of_row _ _ 4 _ _ (0, 0) q0]; rfl
  have k5 := (hb01.cell (p := ⟨b, o + j * 2, none⟩) (show b < w.heap.size by omega)).trans hc0
  have k6 := (hb01.cell (p := ⟨b, o + j * 2 + 1, none⟩) (show b < w.heap.size by omega)).trans hc1
  have hR := Lib.hid (HR.out.below hb01)
  have Q0 := Lib.hid q0
  have HB := Lib.hid hb01
  clear hb0 hx0 q0 hb01 HK HW0 hc0 hc1
  go_wp2
  go_ret
  exact splits_one HB.out hR.out rfl rfl rfl rfl rfl
set_option maxHeartbeats 8000000 in
set_option maxRecDepth 100000 in
theorem split2_any (f : List Nd) (x : Way) (A1 : Option Addr) (c1 : Nat) (A2 : Option Addr) (c2 : Nat) (A3 : Option Addr) (c3 : Nat) (Af : Option Addr) (cf j : Nat) (w : World) (B : Nat) (h : WR w x A1 c1 A2 c2 A3 c3) (hf : Sl w B 2 Af f.length cf (ncells f)) (hB : B ≤ w.heap.size) (hl : f.length ≤ 1000000)
    (hN : isN f = true) (hj : j < f.length) (hx : WOk f x) (_hn : x.need < 256) (_hb : x.ban < 256) (_ht : x.todo.length ≤ 1000000) (hop : opAt f j = 2) :
    Calls Tryd.prog 54 #[.agg #[.int .u64 (x.need : Int), .int .u64 (x.ban : Int), .slice A1 x.now.length c1, .slice A2 x.next.length c2, .slice A3 x.todo.length c3], .slice Af f.length cf, .int .i64 (j : Int)] w (Splits w (splitW f j x)) := by
  have HK := Lib.hid (fun (w' : World) (hb : Below w.heap.size w w') => Kids_any Af cf f (j : Int) w' B (hf.below hb hB) (Nat.le_trans hB hb.size) (by omega) ⟨by omega, by omega⟩)
  have hF := ndF hN hj
  have HR := Lib.hid h
  have HFS := Lib.hid hf
  have HX := Lib.hid hx
  have hcf := hf.cap
  obtain ⟨b, o, rfl, hbB, hc0, hc1⟩ := rd_nd hf.rd hj
  have hge : f[j] = f.getD j ⟨0, 0⟩ := by simp [List.getD, hj]
  rw [hge] at hc0 hc1
  have hb0 : Below w.heap.size w (w.alloc (.cells #[.int .u64 (x.need : Int), .int .u64 (x.ban : Int), .slice A1 x.now.length c1, .slice A2 x.next.length c2, .slice A3 x.todo.length c3] 100)) := (Below.refl _ _).alloc (Nat.le_refl _) _
  have hx0 := heap_alloc_new w (.cells #[.int .u64 (x.need : Int), .int .u64 (x.ban : Int), .slice A1 x.now.length c1, .slice A2 x.next.length c2, .slice A3 x.todo.length c3] 100)
  have hxz : (w.alloc (.cells #[.int .u64 (x.need : Int), .int .u64 (x.ban : Int), .slice A1 x.now.length c1, .slice A2 x.next.length c2, .slice A3 x.todo.length c3] 100)).heap.size = w.heap.size + 1 := by simp
  obtain ⟨W0, hW0⟩ : ∃ W0, w.alloc (.cells #[.int .u64 (x.need : Int), .int .u64 (x.ban : Int), .slice A1 x.now.length c1, .slice A2 x.next.length c2, .slice A3 x.todo.length c3] 100) = W0 := ⟨_, rfl⟩
  rw [hW0] at hb0 hx0 hxz
  have HW0 := Lib.hid hW0
  clear hW0 h hx hge
  change w.cell? ⟨b, o + j * 2, none⟩ = some (.int .i64 (opAt f j)) at hc0
  have hs : splitW f j x = [] := by unfold splitW; rw [hop]; rfl
  rw [hs, hop] at *
  clear hF hs
  go_enter Tryd.func54, Tryd.ntmps54
  go_wp2_with fail
  rw [HW0.out]
  go_wp2_with fail
  refine Calls.mono (HK.out _ hb0) ?_
  rintro e w1 ⟨rfl, hb1⟩
  rw [hxz] at hb1
  have hz1 := hb1.size
  rw [hxz] at hz1
  have hb01 : Below w.heap.size w w1 := hb0.trans (hb1.mono (by omega))
  have q0 := (hb1.block w.heap.size (by omega)).trans hx0
  have k0 : w1.cell? ⟨w.heap.size, 0, none⟩ = some (.int .u64 (x.need : Int)) := by rw [cell_of_row _ _ 0 _ _ (0, 0) q0]; rfl
  have k1 : w1.cell? ⟨w.heap.size, 1, none⟩ = some (.int .u64 (x.ban : Int)) := by rw [cell_of_row _ _ 1 _ _ (0, 0) q0]; rfl
  have k2 : w1.cell? ⟨w.heap.size, 2, none⟩ = some (.slice A1 x.now.length c1) := by rw [cell_of_row _ _ 2 _ _ (0, 0) q0]; rfl
  have k3 : w1.cell? ⟨w.heap.size, 3, none⟩ = some (.slice A2 x.next.length c2) := by rw [cell_of_row _ _ 3 _ _ (0, 0) q0]; rfl
  have k4 : w1.cell? ⟨w.heap.size, 4, none⟩ = some (.slice A3 x.todo.length c3) := by rw [cell_of_row _ _ 4 _ _ (0, 0) q0]; rfl
  have k5 := (hb01.cell (p := ⟨b, o + j * 2, none⟩) (show b < w.heap.size by omega)).trans hc0
  have k6 := (hb01.cell (p := ⟨b, o + j * 2 + 1, none⟩) (show b < w.heap.size by omega)).trans hc1
  have hR := Lib.hid (HR.out.below hb01)
  have Q0 := Lib.hid q0
  have HB := Lib.hid hb01
  clear hb0 hx0 q0 hb01 HK HW0 hc0 hc1
  go_wp2
  go_ret
  exact splits_none HB.out
set_option maxHeartbeats 8000000 in
set_option maxRecDepth 100000 in
theorem split5_any (f : List Nd) (x : Way) (A1 : Option Addr) (c1 : Nat) (A2 : Option Addr) (c2 : Nat) (A3 : Option Addr) (c3 : Nat) (Af : Option Addr) (cf j : Nat) (w : World) (B : Nat) (h : WR w x A1 c1 A2 c2 A3 c3) (hf : Sl w B 2 Af f.length cf (ncells f)) (hB : B ≤ w.heap.size) (hl : f.length ≤ 1000000)
    (hN : isN f = true) (hj : j < f.length) (hx : WOk f x) (_hn : x.need < 256) (_hb : x.ban < 256) (ht : x.todo.length ≤ 1000000) (hop : opAt f j = 5) :
    Calls Tryd.prog 54 #[.agg #[.int .u64 (x.need : Int), .int .u64 (x.ban : Int), .slice A1 x.now.length c1, .slice A2 x.next.length c2, .slice A3 x.todo.length c3], .slice Af f.length cf, .int .i64 (j : Int)] w (Splits w (splitW f j x)) := by
  have HK := Lib.hid (fun (w' : World) (hb : Below w.heap.size w w') => Kids_any Af cf f (j : Int) w' B (hf.below hb hB) (Nat.le_trans hB hb.size) (by omega) ⟨by omega, by omega⟩)
  have hF := ndF hN hj
  have HR := Lib.hid h
  have HFS := Lib.hid hf
  have HX := Lib.hid hx
  have hcf := hf.cap
  obtain ⟨b, o, rfl, hbB, hc0, hc1⟩ := rd_nd hf.rd hj
  have hge : f[j] = f.getD j ⟨0, 0⟩ := by simp [List.getD, hj]
  rw [hge] at hc0 hc1
  have hb0 : Below w.heap.size w (w.alloc (.cells #[.int .u64 (x.need : Int), .int .u64 (x.ban : Int), .slice A1 x.now.length c1, .slice A2 x.next.length c2, .slice A3 x.todo.length c3] 100)) := (Below.refl _ _).alloc (Nat.le_refl _) _
  have hx0 := heap_alloc_new w (.cells #[.int .u64 (x.need : Int), .int .u64 (x.ban : Int), .slice A1 x.now.length c1, .slice A2 x.next.length c2, .slice A3 x.todo.length c3] 100)
  have hxz : (w.alloc (.cells #[.int .u64 (x.need : Int), .int .u64 (x.ban : Int), .slice A1 x.now.length c1, .slice A2 x.next.length c2, .slice A3 x.todo.length c3] 100)).heap.size = w.heap.size + 1 := by simp
  obtain ⟨W0, hW0⟩ : ∃ W0, w.alloc (.cells #[.int .u64 (x.need : Int), .int .u64 (x.ban : Int), .slice A1 x.now.length c1, .slice A2 x.next.length c2, .slice A3 x.todo.length c3] 100) = W0 := ⟨_, rfl⟩
  rw [hW0] at hb0 hx0 hxz
  have HW0 := Lib.hid hW0
  clear hW0 h hx hge
  change w.cell? ⟨b, o + j * 2, none⟩ = some (.int .i64 (opAt f j)) at hc0
  have hs : splitW f j x = [x.with_ [leftOf f j, rightOf f j]] := by unfold splitW; rw [hop]; rfl
  obtain ⟨hk, _, _⟩ := hF.kid2 (.inl hop)
  rw [hs, hop] at *
  rw [hk] at HK
  clear hF hs hk
  go_enter Tryd.func54, Tryd.ntmps54
  go_wp2_with fail
  rw [HW0.out]
  go_wp2_with fail
  refine Calls.mono (HK.out _ hb0) ?_
  rintro e w1 ⟨rfl, hb1⟩
  rw [hxz] at hb1
  have hz1 := hb1.size
  rw [hxz] at hz1
  have hb01 : Below w.heap.size w w1 := hb0.trans (hb1.mono (by omega))
  have q0 := (hb1.block w.heap.size (by omega)).trans hx0
  have k0 : w1.cell? ⟨w.heap.size, 0, none⟩ = some (.int .u64 (x.need : Int)) := by rw [cell_of_row _ _ 0 _ _ (0, 0) q0]; rfl
  have k1 : w1.cell? ⟨w.heap.size, 1, none⟩ = some (.int .u64 (x.ban : Int)) := by rw [cell_of_row _ _ 1 _ _ (0, 0) q0]; rfl
  have k2 : w1.cell? ⟨w.heap.size, 2, none⟩ = some (.slice A1 x.now.length c1) := by rw [cell_of_row _ _ 2 _ _ (0, 0) q0]; rfl
  have k3 : w1.cell? ⟨w.heap.size, 3, none⟩ = some (.slice A2 x.next.length c2) := by rw [cell_of_row _ _ 3 _ _ (0, 0) q0]; rfl
  have k4 : w1.cell? ⟨w.heap.size, 4, none⟩ = some (.slice A3 x.todo.length c3) := by rw [cell_of_row _ _ 4 _ _ (0, 0) q0]; rfl
  have k5 := (hb01.cell (p := ⟨b, o + j * 2, none⟩) (show b < w.heap.size by omega)).trans hc0
  have k6 := (hb01.cell (p := ⟨b, o + j * 2 + 1, none⟩) (show b < w.heap.size by omega)).trans hc1
  have hR := Lib.hid (HR.out.below hb01)
  have Q0 := Lib.hid q0
  have HB := Lib.hid hb01
  clear hb0 hx0 q0 hb01 HK HW0 hc0 hc1
  have hn2 := new_ints w1 [leftOf f j, rightOf f j] (by simp) (by simp)
  have hb2 : Below w1.heap.size w1 (w1.alloc (.cells #[.int .i64 (leftOf f j : Int), .int .i64 (rightOf f j : Int)] 3)) := (Below.refl _ _).alloc (Nat.le_refl _) _
  have HC := Lib.hid (with_any x A1 c1 A2 c2 A3 c3 _ _ [leftOf f j, rightOf f j] _ (hR.out.below hb2) hn2 (by simp) ht)
  go_wp2_with fail
  refine Calls.mono HC.out ?_
  rintro e w3 ⟨v, rfl, ⟨D1, d1, D2, d2, D3, d3, rfl, hr3⟩, hb3⟩
  go_wp2
  go_ret
  exact splits_one (x := x.with_ [leftOf f j, rightOf f j]) (HB.out.trans ((hb2.trans (hb3.mono hb2.size)).mono (by omega))) hr3 (by first | rfl | simp [Way.owing]) (by first | rfl | simp [Way.owing]) (by first | rfl | simp [Way.with_]) rfl rfl
set_option maxHeartbeats 8000000 in
set_option maxRecDepth 100000 in
theorem split8_any (f : List Nd) (x : Way) (A1 : Option Addr) (c1 : Nat) (A2 : Option Addr) (c2 : Nat) (A3 : Option Addr) (c3 : Nat) (Af : Option Addr) (cf j : Nat) (w : World) (B : Nat) (h : WR w x A1 c1 A2 c2 A3 c3) (hf : Sl w B 2 Af f.length cf (ncells f)) (hB : B ≤ w.heap.size) (hl : f.length ≤ 1000000)
    (hN : isN f = true) (hj : j < f.length) (hx : WOk f x) (_hn : x.need < 256) (_hb : x.ban < 256) (_ht : x.todo.length ≤ 1000000) (hop : opAt f j = 8) :
    Calls Tryd.prog 54 #[.agg #[.int .u64 (x.need : Int), .int .u64 (x.ban : Int), .slice A1 x.now.length c1, .slice A2 x.next.length c2, .slice A3 x.todo.length c3], .slice Af f.length cf, .int .i64 (j : Int)] w (Splits w (splitW f j x)) := by
  have HK := Lib.hid (fun (w' : World) (hb : Below w.heap.size w w') => Kids_any Af cf f (j : Int) w' B (hf.below hb hB) (Nat.le_trans hB hb.size) (by omega) ⟨by omega, by omega⟩)
  have hF := ndF hN hj
  have HR := Lib.hid h
  have HFS := Lib.hid hf
  have HX := Lib.hid hx
  have hcf := hf.cap
  obtain ⟨b, o, rfl, hbB, hc0, hc1⟩ := rd_nd hf.rd hj
  have hge : f[j] = f.getD j ⟨0, 0⟩ := by simp [List.getD, hj]
  rw [hge] at hc0 hc1
  have hb0 : Below w.heap.size w (w.alloc (.cells #[.int .u64 (x.need : Int), .int .u64 (x.ban : Int), .slice A1 x.now.length c1, .slice A2 x.next.length c2, .slice A3 x.todo.length c3] 100)) := (Below.refl _ _).alloc (Nat.le_refl _) _
  have hx0 := heap_alloc_new w (.cells #[.int .u64 (x.need : Int), .int .u64 (x.ban : Int), .slice A1 x.now.length c1, .slice A2 x.next.length c2, .slice A3 x.todo.length c3] 100)
  have hxz : (w.alloc (.cells #[.int .u64 (x.need : Int), .int .u64 (x.ban : Int), .slice A1 x.now.length c1, .slice A2 x.next.length c2, .slice A3 x.todo.length c3] 100)).heap.size = w.heap.size + 1 := by simp
  obtain ⟨W0, hW0⟩ : ∃ W0, w.alloc (.cells #[.int .u64 (x.need : Int), .int .u64 (x.ban : Int), .slice A1 x.now.length c1, .slice A2 x.next.length c2, .slice A3 x.todo.length c3] 100) = W0 := ⟨_, rfl⟩
  rw [hW0] at hb0 hx0 hxz
  have HW0 := Lib.hid hW0
  clear hW0 h hx hge
  change w.cell? ⟨b, o + j * 2, none⟩ = some (.int .i64 (opAt f j)) at hc0
  have hs : splitW f j x = [x.owing (leftOf f j)] := by unfold splitW; rw [hop]; rfl
  obtain ⟨hk, _⟩ := hF.kid1 hop
  rw [hs, hop] at *
  rw [hk] at HK
  clear hF hs hk
  go_enter Tryd.func54, Tryd.ntmps54
  go_wp2_with fail
  rw [HW0.out]
  go_wp2_with fail
  refine Calls.mono (HK.out _ hb0) ?_
  rintro e w1 ⟨rfl, hb1⟩
  rw [hxz] at hb1
  have hz1 := hb1.size
  rw [hxz] at hz1
  have hb01 : Below w.heap.size w w1 := hb0.trans (hb1.mono (by omega))
  have q0 := (hb1.block w.heap.size (by omega)).trans hx0
  have k0 : w1.cell? ⟨w.heap.size, 0, none⟩ = some (.int .u64 (x.need : Int)) := by rw [cell_of_row _ _ 0 _ _ (0, 0) q0]; rfl
  have k1 : w1.cell? ⟨w.heap.size, 1, none⟩ = some (.int .u64 (x.ban : Int)) := by rw [cell_of_row _ _ 1 _ _ (0, 0) q0]; rfl
  have k2 : w1.cell? ⟨w.heap.size, 2, none⟩ = some (.slice A1 x.now.length c1) := by rw [cell_of_row _ _ 2 _ _ (0, 0) q0]; rfl
  have k3 : w1.cell? ⟨w.heap.size, 3, none⟩ = some (.slice A2 x.next.length c2) := by rw [cell_of_row _ _ 3 _ _ (0, 0) q0]; rfl
  have k4 : w1.cell? ⟨w.heap.size, 4, none⟩ = some (.slice A3 x.todo.length c3) := by rw [cell_of_row _ _ 4 _ _ (0, 0) q0]; rfl
  have k5 := (hb01.cell (p := ⟨b, o + j * 2, none⟩) (show b < w.heap.size by omega)).trans hc0
  have k6 := (hb01.cell (p := ⟨b, o + j * 2 + 1, none⟩) (show b < w.heap.size by omega)).trans hc1
  have hR := Lib.hid (HR.out.below hb01)
  have Q0 := Lib.hid q0
  have HB := Lib.hid hb01
  clear hb0 hx0 q0 hb01 HK HW0 hc0 hc1
  have HC := Lib.hid (owing_any x A1 c1 A2 c2 A3 c3 (leftOf f j) w1 hR.out (by rw [HX.out.next]; omega) (by rw [HX.out.next]; omega))
  go_wp2_with fail
  refine Calls.mono HC.out ?_
  rintro e w3 ⟨v, rfl, ⟨D1, d1, D2, d2, D3, d3, rfl, hr3⟩, hb3⟩
  go_wp2
  go_ret
  exact splits_one (x := x.owing (leftOf f j)) (HB.out.trans (hb3.mono (by omega))) hr3 (by first | rfl | simp [Way.owing]) (by first | rfl | simp [Way.owing]) (by first | rfl | simp [Way.with_]) rfl rfl
set_option maxHeartbeats 8000000 in
set_option maxRecDepth 100000 in
theorem split3_any (f : List Nd) (x : Way) (A1 : Option Addr) (c1 : Nat) (A2 : Option Addr) (c2 : Nat) (A3 : Option Addr) (c3 : Nat) (Af : Option Addr) (cf j : Nat) (w : World) (B : Nat) (h : WR w x A1 c1 A2 c2 A3 c3) (hf : Sl w B 2 Af f.length cf (ncells f)) (hB : B ≤ w.heap.size) (hl : f.length ≤ 1000000)
    (hN : isN f = true) (hj : j < f.length) (hx : WOk f x) (hn : x.need < 256) (hb : x.ban < 256) (_ht : x.todo.length ≤ 1000000) (hop : opAt f j = 3) :
    Calls Tryd.prog 54 #[.agg #[.int .u64 (x.need : Int), .int .u64 (x.ban : Int), .slice A1 x.now.length c1, .slice A2 x.next.length c2, .slice A3 x.todo.length c3], .slice Af f.length cf, .int .i64 (j : Int)] w (Splits w (splitW f j x)) := by
  have HK := Lib.hid (fun (w' : World) (hb : Below w.heap.size w w') => Kids_any Af cf f (j : Int) w' B (hf.below hb hB) (Nat.le_trans hB hb.size) (by omega) ⟨by omega, by omega⟩)
  have hF := ndF hN hj
  have HR := Lib.hid h
  have HFS := Lib.hid hf
  have HX := Lib.hid hx
  have hcf := hf.cap
  obtain ⟨b, o, rfl, hbB, hc0, hc1⟩ := rd_nd hf.rd hj
  have hge : f[j] = f.getD j ⟨0, 0⟩ := by simp [List.getD, hj]
  rw [hge] at hc0 hc1
  have hb0 : Below w.heap.size w (w.alloc (.cells #[.int .u64 (x.need : Int), .int .u64 (x.ban : Int), .slice A1 x.now.length c1, .slice A2 x.next.length c2, .slice A3 x.todo.length c3] 100)) := (Below.refl _ _).alloc (Nat.le_refl _) _
  have hx0 := heap_alloc_new w (.cells #[.int .u64 (x.need : Int), .int .u64 (x.ban : Int), .slice A1 x.now.length c1, .slice A2 x.next.length c2, .slice A3 x.todo.length c3] 100)
  have hxz : (w.alloc (.cells #[.int .u64 (x.need : Int), .int .u64 (x.ban : Int), .slice A1 x.now.length c1, .slice A2 x.next.length c2, .slice A3 x.todo.length c3] 100)).heap.size = w.heap.size + 1 := by simp
  obtain ⟨W0, hW0⟩ : ∃ W0, w.alloc (.cells #[.int .u64 (x.need : Int), .int .u64 (x.ban : Int), .slice A1 x.now.length c1, .slice A2 x.next.length c2, .slice A3 x.todo.length c3] 100) = W0 := ⟨_, rfl⟩
  rw [hW0] at hb0 hx0 hxz
  have HW0 := Lib.hid hW0
  clear hW0 h hx hge
  change w.cell? ⟨b, o + j * 2, none⟩ = some (.int .i64 (opAt f j)) at hc0
  have hs : splitW f j x = finW { x with need := x.need ||| 2 ^ nAt f j } := by unfold splitW; rw [hop]; rfl
  obtain ⟨hk, hk8⟩ := hF.prop hop
  rw [hs, hop] at *
  rw [hk] at hc1
  generalize nAt f j = p at *
  clear hF hs hk
  have hwp := wrap_pow8 hk8
  have hp8 : 2 ^ p < 256 := by have : 2 ^ p < 2 ^ 8 := Nat.pow_lt_pow_right (by omega) hk8; omega
  have hor := or_u64 (x := x.need) (y := 2 ^ p) (by omega) (by omega)
  have hlt : x.need ||| 2 ^ p < 2 ^ 8 := Nat.or_lt_two_pow (by omega) (by omega)
  have hand := and_u64' (x := x.need ||| 2 ^ p) (y := x.ban) (by omega) (by omega)
  generalize hq : 2 ^ p = q at *
  generalize hm : x.need ||| q = m at *
  have HQ := Lib.hid hq
  have HM := Lib.hid hm
  clear hq hm
  go_enter Tryd.func54, Tryd.ntmps54
  go_wp2_with fail
  rw [HW0.out]
  go_wp2_with fail
  refine Calls.mono (HK.out _ hb0) ?_
  rintro e w1 ⟨rfl, hb1⟩
  rw [hxz] at hb1
  have hz1 := hb1.size
  rw [hxz] at hz1
  have hb01 : Below w.heap.size w w1 := hb0.trans (hb1.mono (by omega))
  have q0 := (hb1.block w.heap.size (by omega)).trans hx0
  have k0 : w1.cell? ⟨w.heap.size, 0, none⟩ = some (.int .u64 (x.need : Int)) := by rw [cell_of_row _ _ 0 _ _ (0, 0) q0]; rfl
  have k1 : w1.cell? ⟨w.heap.size, 1, none⟩ = some (.int .u64 (x.ban : Int)) := by rw [cell_of_row _ _ 1 _ _ (0, 0) q0]; rfl
  have k2 : w1.cell? ⟨w.heap.size, 2, none⟩ = some (.slice A1 x.now.length c1) := by rw [cell_of_row _ _ 2 _ _ (0, 0) q0]; rfl
  have k3 : w1.cell? ⟨w.heap.size, 3, none⟩ = some (.slice A2 x.next.length c2) := by rw [cell_of_row _ _ 3 _ _ (0, 0) q0]; rfl
  have k4 : w1.cell? ⟨w.heap.size, 4, none⟩ = some (.slice A3 x.todo.length c3) := by rw [cell_of_row _ _ 4 _ _ (0, 0) q0]; rfl
  have k5 := (hb01.cell (p := ⟨b, o + j * 2, none⟩) (show b < w.heap.size by omega)).trans hc0
  have k6 := (hb01.cell (p := ⟨b, o + j * 2 + 1, none⟩) (show b < w.heap.size by omega)).trans hc1
  have hR := Lib.hid (HR.out.below hb01)
  have Q0 := Lib.hid q0
  have HB := Lib.hid hb01
  clear hb0 hx0 q0 hb01 HK HW0 hc0 hc1
  have kf0 := frozen_of_row _ _ 0 _ _ Q0.out
  go_wp2_with fail
  refine wp_region_T (S := fun w' => w'.cell? ⟨w.heap.size, 0, none⟩ = some (.int .u64 (x.need : Int)) ∧ w'.cell? ⟨b, o + j * 2 + 1, none⟩ = some (.int .i64 (p : Int))) 10 (by kernel_rfl) (⟨k0, k6⟩) (fun hS => ?_)
  refine wpAnyT_takeD (i := 0) (v := ?_) rfl (by kernel_rfl) (by kernel_rfl) (by kernel_rfl) (by kernel_rfl) (fun _ _ _ h => h) (Or.inl ⟨by kernel_rfl, ?_⟩) hS ?_
  rotate_left 1
  · (intro w' hSw; (try dsimp only at hSw); go_simp; try (with_reducible rfl))
  try simp only [Act.put, List.setIfInBounds_toArray, List.set_cons_zero, List.set_cons_succ]
  refine wpAnyT_takeD (i := 1) (v := ?_) rfl (by kernel_rfl) (by kernel_rfl) (by kernel_rfl) (by kernel_rfl) (fun _ _ _ h => h) (Or.inl ⟨by kernel_rfl, ?_⟩) hS ?_
  rotate_left 1
  · (intro w' hSw; (try dsimp only at hSw); go_simp; try (with_reducible rfl))
  try simp only [Act.put, List.setIfInBounds_toArray, List.set_cons_zero, List.set_cons_succ]
  refine wpAnyT_takeD (i := 2) (v := ?_) rfl (by kernel_rfl) (by kernel_rfl) (by kernel_rfl) (by kernel_rfl) (fun _ _ _ h => h) (Or.inl ⟨by kernel_rfl, ?_⟩) hS ?_
  rotate_left 1
  · (intro w' hSw; (try dsimp only at hSw); go_simp; try (with_reducible rfl))
  try simp only [Act.put, List.setIfInBounds_toArray, List.set_cons_zero, List.set_cons_succ]
  refine wpAnyT_takeD (i := 3) (v := ?_) rfl (by kernel_rfl) (by kernel_rfl) (by kernel_rfl) (by kernel_rfl) (fun _ _ _ h => h) (Or.inl ⟨by kernel_rfl, ?_⟩) hS ?_
  rotate_left 1
  · (intro w' hSw; (try dsimp only at hSw); go_simp; try (with_reducible rfl))
  try simp only [Act.put, List.setIfInBounds_toArray, List.set_cons_zero, List.set_cons_succ]
  refine wpAnyT_takeD (i := 4) (v := ?_) rfl (by kernel_rfl) (by kernel_rfl) (by kernel_rfl) (by kernel_rfl) (fun _ _ _ h => h) (Or.inl ⟨by kernel_rfl, ?_⟩) hS ?_
  rotate_left 1
  · (intro w' hSw; (try dsimp only at hSw); go_simp; try (with_reducible rfl))
  try simp only [Act.put, List.setIfInBounds_toArray, List.set_cons_zero, List.set_cons_succ]
  refine wpAnyT_takeD (i := 5) (v := ?_) rfl (by kernel_rfl) (by kernel_rfl) (by kernel_rfl) (by kernel_rfl) (fun _ _ _ h => h) (Or.inl ⟨by kernel_rfl, ?_⟩) hS ?_
  rotate_left 1
  · (intro w' hSw; (try dsimp only at hSw); go_simp; try (with_reducible rfl))
  try simp only [Act.put, List.setIfInBounds_toArray, List.set_cons_zero, List.set_cons_succ]
  refine wpAnyT_takeD (i := 6) (v := ?_) rfl (by kernel_rfl) (by kernel_rfl) (by kernel_rfl) (by kernel_rfl) (fun _ _ _ h => h) (Or.inl ⟨by kernel_rfl, ?_⟩) hS ?_
  rotate_left 1
  · (intro w' hSw; (try dsimp only at hSw); go_simp; try (with_reducible rfl))
  try simp only [Act.put, List.setIfInBounds_toArray, List.set_cons_zero, List.set_cons_succ]
  refine wpAnyT_takeD (i := 7) (v := ?_) rfl (by kernel_rfl) (by kernel_rfl) (by kernel_rfl) (by kernel_rfl) (fun _ _ _ h => h) (Or.inl ⟨by kernel_rfl, ?_⟩) hS ?_
  rotate_left 1
  · (intro w' hSw; (try dsimp only at hSw); go_simp; try (with_reducible rfl))
  try simp only [Act.put, List.setIfInBounds_toArray, List.set_cons_zero, List.set_cons_succ]
  refine wpAnyT_takeD (i := 8) (v := ?_) rfl (by kernel_rfl) (by kernel_rfl) (by kernel_rfl) (by kernel_rfl) (fun _ _ _ h => h) (Or.inl ⟨by kernel_rfl, ?_⟩) hS ?_
  rotate_left 1
  · (intro w' hSw; (try dsimp only at hSw); go_simp; try (with_reducible rfl))
  try simp only [Act.put, List.setIfInBounds_toArray, List.set_cons_zero, List.set_cons_succ]
  refine wpAnyT_takeD (i := 9) (v := ?_) rfl (by kernel_rfl) (by kernel_rfl) (by kernel_rfl) (by kernel_rfl) (fun _ _ _ h => h) (Or.inl ⟨by kernel_rfl, ?_⟩) hS ?_
  rotate_left 1
  · (intro w' hSw; (try dsimp only at hSw); go_simp; try (with_reducible rfl))
  try simp only [Act.put, List.setIfInBounds_toArray, List.set_cons_zero, List.set_cons_succ]
  refine wpAnyT_endD rfl (by kernel_rfl) (by kernel_rfl) (fun K hK => ?_)
  go_simp
  refine hK.out _ _ ?_
  clear hK
  by_cases hz : m &&& x.ban  = 0
  · have hd : (((m &&& x.ban  : Nat) : Int) != 0) = false := by rw [hz]; rfl
    have HS : Hid (finW { x with need := m } = [{ x with need := m }]) := Lib.hid (by unfold finW; rw [if_pos (by exact hz)])
    clear hz
    go_wp2
    go_ret
    rw [HS.out]
    have ht := (Tch.refl (fun k => k = w.heap.size) w1).setCell (p := ⟨w.heap.size, 0, none⟩) (fun _ => rfl) (.int .u64 (m : Int))
    have H := splits_one (x := { x with need := m }) (w := w) (w1 := w1.setCell ⟨w.heap.size, 0, none⟩ (.int .u64 (m : Int))) (HB.out.setCell (p := ⟨w.heap.size, 0, none⟩) (Nat.le_refl _) _) (A1 := A1) (A2 := A2) (A3 := A3) (c1 := c1) (c2 := c2) (c3 := c3) (by have := hR.out.keep ht (spares_one Q0.out (by decide)) (spares_one Q0.out (by decide)); exact ⟨this.now, this.next, this.todo⟩) rfl rfl rfl rfl rfl
    rw [show (w1.setCell ⟨w.heap.size, 0, none⟩ (.int .u64 (m : Int))).heap.size = w1.heap.size by simp [World.setCell]] at H
    exact splits_drew H
  · have hd : (((m &&& x.ban  : Nat) : Int) != 0) = true := by simpa using hz
    have HS : Hid (finW { x with need := m } = []) := Lib.hid (by unfold finW; rw [if_neg (by exact hz)])
    clear hz
    go_wp2
    go_ret
    rw [HS.out]
    exact splits_drew <| splits_none (HB.out.setCell (p := ⟨w.heap.size, 0, none⟩) (Nat.le_refl _) _)
set_option maxHeartbeats 8000000 in
set_option maxRecDepth 100000 in
theorem split4_any (f : List Nd) (x : Way) (A1 : Option Addr) (c1 : Nat) (A2 : Option Addr) (c2 : Nat) (A3 : Option Addr) (c3 : Nat) (Af : Option Addr) (cf j : Nat) (w : World) (B : Nat) (h : WR w x A1 c1 A2 c2 A3 c3) (hf : Sl w B 2 Af f.length cf (ncells f)) (hB : B ≤ w.heap.size) (hl : f.length ≤ 1000000)
    (hN : isN f = true) (hj : j < f.length) (hx : WOk f x) (hn : x.need < 256) (hb : x.ban < 256) (_ht : x.todo.length ≤ 1000000) (hop : opAt f j = 4) :
    Calls Tryd.prog 54 #[.agg #[.int .u64 (x.need : Int), .int .u64 (x.ban : Int), .slice A1 x.now.length c1, .slice A2 x.next.length c2, .slice A3 x.todo.length c3], .slice Af f.length cf, .int .i64 (j : Int)] w (Splits w (splitW f j x)) := by
  have HK := Lib.hid (fun (w' : World) (hb : Below w.heap.size w w') => Kids_any Af cf f (j : Int) w' B (hf.below hb hB) (Nat.le_trans hB hb.size) (by omega) ⟨by omega, by omega⟩)
  have hF := ndF hN hj
  have HR := Lib.hid h
  have HFS := Lib.hid hf
  have HX := Lib.hid hx
  have hcf := hf.cap
  obtain ⟨b, o, rfl, hbB, hc0, hc1⟩ := rd_nd hf.rd hj
  have hge : f[j] = f.getD j ⟨0, 0⟩ := by simp [List.getD, hj]
  rw [hge] at hc0 hc1
  have hb0 : Below w.heap.size w (w.alloc (.cells #[.int .u64 (x.need : Int), .int .u64 (x.ban : Int), .slice A1 x.now.length c1, .slice A2 x.next.length c2, .slice A3 x.todo.length c3] 100)) := (Below.refl _ _).alloc (Nat.le_refl _) _
  have hx0 := heap_alloc_new w (.cells #[.int .u64 (x.need : Int), .int .u64 (x.ban : Int), .slice A1 x.now.length c1, .slice A2 x.next.length c2, .slice A3 x.todo.length c3] 100)
  have hxz : (w.alloc (.cells #[.int .u64 (x.need : Int), .int .u64 (x.ban : Int), .slice A1 x.now.length c1, .slice A2 x.next.length c2, .slice A3 x.todo.length c3] 100)).heap.size = w.heap.size + 1 := by simp
  obtain ⟨W0, hW0⟩ : ∃ W0, w.alloc (.cells #[.int .u64 (x.need : Int), .int .u64 (x.ban : Int), .slice A1 x.now.length c1, .slice A2 x.next.length c2, .slice A3 x.todo.length c3] 100) = W0 := ⟨_, rfl⟩
  rw [hW0] at hb0 hx0 hxz
  have HW0 := Lib.hid hW0
  clear hW0 h hx hge
  change w.cell? ⟨b, o + j * 2, none⟩ = some (.int .i64 (opAt f j)) at hc0
  have hs : splitW f j x = finW { x with ban := x.ban ||| 2 ^ nAt f (j - 1) } := by unfold splitW; rw [hop]; rfl
  obtain ⟨h1, hk, hk8⟩ := hF.lit hop
  obtain ⟨i, hi⟩ : ∃ i, j = i + 1 := ⟨j - 1, by omega⟩
  have hji : j - 1 = i := by omega
  rw [hji] at hk hk8
  obtain ⟨b', o', he, -, -, hc7⟩ := rd_nd HFS.out.rd (k := i) (by omega)
  cases he
  rw [show f[i] = f.getD i ⟨0, 0⟩ by simp [List.getD, show i < f.length by omega], hk] at hc7
  rw [hs, hop] at *
  rw [hji]
  have hsub : (j : Int) - 1 = (i : Int) := by omega
  have hwi : IntKind.i64.wrap (i : Int) = (i : Int) := IntWalk.i64_in _ (by omega)
  have HI := Lib.hid hi
  have hil : i < f.length := by omega
  clear hji hi h1
  generalize nAt f i = p at *
  clear hF hs hk
  have hwp := wrap_pow8 hk8
  have hp8 : 2 ^ p < 256 := by have : 2 ^ p < 2 ^ 8 := Nat.pow_lt_pow_right (by omega) hk8; omega
  have hor := or_u64 (x := x.ban) (y := 2 ^ p) (by omega) (by omega)
  have hlt : x.ban ||| 2 ^ p < 2 ^ 8 := Nat.or_lt_two_pow (by omega) (by omega)
  have hand := and_u64' (x := x.need) (y := x.ban ||| 2 ^ p) (by omega) (by omega)
  generalize hq : 2 ^ p = q at *
  generalize hm : x.ban ||| q = m at *
  have HQ := Lib.hid hq
  have HM := Lib.hid hm
  clear hq hm
  go_enter Tryd.func54, Tryd.ntmps54
  go_wp2_with fail
  rw [HW0.out]
  go_wp2_with fail
  refine Calls.mono (HK.out _ hb0) ?_
  rintro e w1 ⟨rfl, hb1⟩
  rw [hxz] at hb1
  have hz1 := hb1.size
  rw [hxz] at hz1
  have hb01 : Below w.heap.size w w1 := hb0.trans (hb1.mono (by omega))
  have q0 := (hb1.block w.heap.size (by omega)).trans hx0
  have k0 : w1.cell? ⟨w.heap.size, 0, none⟩ = some (.int .u64 (x.need : Int)) := by rw [cell_of_row _ _ 0 _ _ (0, 0) q0]; rfl
  have k1 : w1.cell? ⟨w.heap.size, 1, none⟩ = some (.int .u64 (x.ban : Int)) := by rw [cell_of_row _ _ 1 _ _ (0, 0) q0]; rfl
  have k2 : w1.cell? ⟨w.heap.size, 2, none⟩ = some (.slice A1 x.now.length c1) := by rw [cell_of_row _ _ 2 _ _ (0, 0) q0]; rfl
  have k3 : w1.cell? ⟨w.heap.size, 3, none⟩ = some (.slice A2 x.next.length c2) := by rw [cell_of_row _ _ 3 _ _ (0, 0) q0]; rfl
  have k4 : w1.cell? ⟨w.heap.size, 4, none⟩ = some (.slice A3 x.todo.length c3) := by rw [cell_of_row _ _ 4 _ _ (0, 0) q0]; rfl
  have k5 := (hb01.cell (p := ⟨b, o + j * 2, none⟩) (show b < w.heap.size by omega)).trans hc0
  have k6 := (hb01.cell (p := ⟨b, o + j * 2 + 1, none⟩) (show b < w.heap.size by omega)).trans hc1
  have hR := Lib.hid (HR.out.below hb01)
  have Q0 := Lib.hid q0
  have HB := Lib.hid hb01
  clear hb0 hx0 q0 hb01 HK HW0 hc0 hc1
  have k7 := (HB.out.cell (p := ⟨b, o + i * 2 + 1, none⟩) (show b < w.heap.size by omega)).trans hc7
  have kf0 := frozen_of_row _ _ 1 _ _ Q0.out
  go_wp2_with fail
  refine wp_region_T (S := fun w' => w'.cell? ⟨w.heap.size, 1, none⟩ = some (.int .u64 (x.ban : Int)) ∧ w'.cell? ⟨b, o + i * 2 + 1, none⟩ = some (.int .i64 (p : Int))) 11 (by kernel_rfl) (⟨k1, k7⟩) (fun hS => ?_)
  refine wpAnyT_takeD (i := 0) (v := ?_) rfl (by kernel_rfl) (by kernel_rfl) (by kernel_rfl) (by kernel_rfl) (fun _ _ _ h => h) (Or.inl ⟨by kernel_rfl, ?_⟩) hS ?_
  rotate_left 1
  · (intro w' hSw; (try dsimp only at hSw); go_simp; try (with_reducible rfl))
  try simp only [Act.put, List.setIfInBounds_toArray, List.set_cons_zero, List.set_cons_succ]
  refine wpAnyT_takeD (i := 1) (v := ?_) rfl (by kernel_rfl) (by kernel_rfl) (by kernel_rfl) (by kernel_rfl) (fun _ _ _ h => h) (Or.inl ⟨by kernel_rfl, ?_⟩) hS ?_
  rotate_left 1
  · (intro w' hSw; (try dsimp only at hSw); go_simp; try (with_reducible rfl))
  try simp only [Act.put, List.setIfInBounds_toArray, List.set_cons_zero, List.set_cons_succ]
  refine wpAnyT_takeD (i := 2) (v := ?_) rfl (by kernel_rfl) (by kernel_rfl) (by kernel_rfl) (by kernel_rfl) (fun _ _ _ h => h) (Or.inl ⟨by kernel_rfl, ?_⟩) hS ?_
  rotate_left 1
  · (intro w' hSw; (try dsimp only at hSw); go_simp; try (with_reducible rfl))
  try simp only [Act.put, List.setIfInBounds_toArray, List.set_cons_zero, List.set_cons_succ]
  refine wpAnyT_takeD (i := 3) (v := ?_) rfl (by kernel_rfl) (by kernel_rfl) (by kernel_rfl) (by kernel_rfl) (fun _ _ _ h => h) (Or.inl ⟨by kernel_rfl, ?_⟩) hS ?_
  rotate_left 1
  · (intro w' hSw; (try dsimp only at hSw); go_simp; try (with_reducible rfl))
  try simp only [Act.put, List.setIfInBounds_toArray, List.set_cons_zero, List.set_cons_succ]
  refine wpAnyT_takeD (i := 4) (v := ?_) rfl (by kernel_rfl) (by kernel_rfl) (by kernel_rfl) (by kernel_rfl) (fun _ _ _ h => h) (Or.inl ⟨by kernel_rfl, ?_⟩) hS ?_
  rotate_left 1
  · (intro w' hSw; (try dsimp only at hSw); go_simp; try (with_reducible rfl))
  try simp only [Act.put, List.setIfInBounds_toArray, List.set_cons_zero, List.set_cons_succ]
  refine wpAnyT_takeD (i := 5) (v := ?_) rfl (by kernel_rfl) (by kernel_rfl) (by kernel_rfl) (by kernel_rfl) (fun _ _ _ h => h) (Or.inl ⟨by kernel_rfl, ?_⟩) hS ?_
  rotate_left 1
  · (intro w' hSw; (try dsimp only at hSw); go_simp; try (with_reducible rfl))
  try simp only [Act.put, List.setIfInBounds_toArray, List.set_cons_zero, List.set_cons_succ]
  refine wpAnyT_takeD (i := 6) (v := ?_) rfl (by kernel_rfl) (by kernel_rfl) (by kernel_rfl) (by kernel_rfl) (fun _ _ _ h => h) (Or.inl ⟨by kernel_rfl, ?_⟩) hS ?_
  rotate_left 1
  · (intro w' hSw; (try dsimp only at hSw); go_simp; try (with_reducible rfl))
  try simp only [Act.put, List.setIfInBounds_toArray, List.set_cons_zero, List.set_cons_succ]
  refine wpAnyT_takeD (i := 7) (v := ?_) rfl (by kernel_rfl) (by kernel_rfl) (by kernel_rfl) (by kernel_rfl) (fun _ _ _ h => h) (Or.inl ⟨by kernel_rfl, ?_⟩) hS ?_
  rotate_left 1
  · (intro w' hSw; (try dsimp only at hSw); go_simp; try (with_reducible rfl))
  try simp only [Act.put, List.setIfInBounds_toArray, List.set_cons_zero, List.set_cons_succ]
  refine wpAnyT_takeD (i := 8) (v := ?_) rfl (by kernel_rfl) (by kernel_rfl) (by kernel_rfl) (by kernel_rfl) (fun _ _ _ h => h) (Or.inl ⟨by kernel_rfl, ?_⟩) hS ?_
  rotate_left 1
  · (intro w' hSw; (try dsimp only at hSw); go_simp; try (with_reducible rfl))
  try simp only [Act.put, List.setIfInBounds_toArray, List.set_cons_zero, List.set_cons_succ]
  refine wpAnyT_takeD (i := 9) (v := ?_) rfl (by kernel_rfl) (by kernel_rfl) (by kernel_rfl) (by kernel_rfl) (fun _ _ _ h => h) (Or.inl ⟨by kernel_rfl, ?_⟩) hS ?_
  rotate_left 1
  · (intro w' hSw; (try dsimp only at hSw); go_simp; try (with_reducible rfl))
  try simp only [Act.put, List.setIfInBounds_toArray, List.set_cons_zero, List.set_cons_succ]
  refine wpAnyT_takeD (i := 10) (v := ?_) rfl (by kernel_rfl) (by kernel_rfl) (by kernel_rfl) (by kernel_rfl) (fun _ _ _ h => h) (Or.inl ⟨by kernel_rfl, ?_⟩) hS ?_
  rotate_left 1
  · (intro w' hSw; (try dsimp only at hSw); go_simp; try (with_reducible rfl))
  try simp only [Act.put, List.setIfInBounds_toArray, List.set_cons_zero, List.set_cons_succ]
  refine wpAnyT_endD rfl (by kernel_rfl) (by kernel_rfl) (fun K hK => ?_)
  go_simp
  refine hK.out _ _ ?_
  clear hK
  by_cases hz : x.need &&& m  = 0
  · have hd : (((x.need &&& m  : Nat) : Int) != 0) = false := by rw [hz]; rfl
    have HS : Hid (finW { x with ban := m } = [{ x with ban := m }]) := Lib.hid (by unfold finW; rw [if_pos (by exact hz)])
    clear hz
    go_wp2
    go_ret
    rw [HS.out]
    have ht := (Tch.refl (fun k => k = w.heap.size) w1).setCell (p := ⟨w.heap.size, 1, none⟩) (fun _ => rfl) (.int .u64 (m : Int))
    have H := splits_one (x := { x with ban := m }) (w := w) (w1 := w1.setCell ⟨w.heap.size, 1, none⟩ (.int .u64 (m : Int))) (HB.out.setCell (p := ⟨w.heap.size, 1, none⟩) (Nat.le_refl _) _) (A1 := A1) (A2 := A2) (A3 := A3) (c1 := c1) (c2 := c2) (c3 := c3) (by have := hR.out.keep ht (spares_one Q0.out (by decide)) (spares_one Q0.out (by decide)); exact ⟨this.now, this.next, this.todo⟩) rfl rfl rfl rfl rfl
    rw [show (w1.setCell ⟨w.heap.size, 1, none⟩ (.int .u64 (m : Int))).heap.size = w1.heap.size by simp [World.setCell]] at H
    exact splits_drew H
  · have hd : (((x.need &&& m  : Nat) : Int) != 0) = true := by simpa using hz
    have HS : Hid (finW { x with ban := m } = []) := Lib.hid (by unfold finW; rw [if_neg (by exact hz)])
    clear hz
    go_wp2
    go_ret
    rw [HS.out]
    exact splits_drew <| splits_none (HB.out.setCell (p := ⟨w.heap.size, 1, none⟩) (Nat.le_refl _) _)
end Go.Proofs.YtamhjgkigjpbhaaDoor
