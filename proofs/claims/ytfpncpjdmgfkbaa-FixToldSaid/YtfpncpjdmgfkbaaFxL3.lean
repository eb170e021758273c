/- The law FixTold. -/
import Derived.Test.YtfpncpjdmgfkbaaFx20
namespace Go.Proofs.Ytfpncpjdmgfkbaa
open Go.RowKit

theorem IsL.twice {n : Nat} {E : List (List Nd)} {init : List Int} {sets : List (List Bool)} {stem loop : List Int} (h : IsL n E init sets stem loop) : IsL n E init sets (stem ++ loop) (loop ++ loop) := by
  obtain ⟨h1, h2, ⟨x0, h3, h3'⟩, h4, h5⟩ := h
  refine ⟨by simp [h1], ?_, ⟨x0, ?_, h3'⟩, ?_, fun s hs => ?_⟩
  · intro x hx
    rw [List.mem_append, List.mem_append, List.mem_append] at hx
    rcases hx with (hx | hx) | (hx | hx)
    · exact h2 x (List.mem_append_left _ hx)
    all_goals exact h2 x (List.mem_append_right _ hx)
  · rw [List.getElem?_append_left (List.getElem?_eq_some_iff.1 h3).1]; exact h3
  · cases loop with
    | nil => exact absurd rfl h1
    | cons x m =>
      have t1 : (x :: m).take 1 = [x] := rfl
      rw [t1] at h4
      have k1 := h4.drop stem.length
      rw [List.append_assoc, List.drop_left] at k1
      have k1' : Chn E (x :: (m ++ [x])) := k1
      have k2 := Chn.join h4 k1'
      have e2 : stem ++ x :: m ++ x :: (m ++ [x]) = (stem ++ x :: m ++ (x :: m)) ++ [x] := by simp
      rw [e2] at k2
      have k3 := Chn.join k2 k1'
      have e3 : stem ++ x :: m ++ (x :: m) ++ x :: (m ++ [x]) = stem ++ x :: m ++ ((x :: m) ++ (x :: m)) ++ List.take 1 ((x :: m) ++ (x :: m)) := by simp
      rw [e3] at k3
      exact k3
  · obtain ⟨x, hx, hm⟩ := h5 s hs
    exact ⟨x, List.mem_append_left _ hx, hm⟩
theorem IsL.initB {E : List (List Nd)} {init : List Int} {sets : List (List Bool)} {stem loop : List Int} {z : List Bool} (h : IsL E.length E init sets stem loop) (hz : Gfp E (asksOf sets) z) : initB z init = true := by
  obtain ⟨x0, h3, h3'⟩ := h.begins
  exact List.any_eq_true.2 ⟨x0, h3', h.stay hz x0 (List.mem_of_getElem? h3)⟩

/-- Rows of ints and a box for a lasso, under way, each there or not yet. -/
def OwnO (b : Nat) (W : World) : Option (Value × List Value) → Prop
  | none => True
  | some (v, xs) => W.ownsRow b 3 1 v xs.length xs
def BlkO (b : Nat) (W : World) : Option Nat → Prop
  | none => True
  | some g => b ≤ g ∧ W.heap[g]? = some (.cells #[.slice none 0 0, .slice none 0 0] 51 (0, 0))
def DisO : Option (Value × List Value) → Option (Value × List Value) → Prop
  | some (v, _), some (u, _) => ∀ g, v.ownBlock = some g → u.ownBlock = some g → False
  | _, _ => True
structure TwR (w0 : World) (oA oB : Option (Value × List Value)) (oL : Option Nat) (W : World) : Prop where
  below : Below w0.heap.size w0 W
  a : OwnO w0.heap.size W oA
  b : OwnO w0.heap.size W oB
  l : BlkO w0.heap.size W oL
  dis : DisO oA oB
theorem DisO.swap {p q : Option (Value × List Value)} (h : DisO p q) : DisO q p := by
  rcases p with _ | ⟨v, xs⟩ <;> rcases q with _ | ⟨u, ys⟩ <;> first | trivial | exact fun g h1 h2 => h g h2 h1
theorem TwR.swap {w0 W : World} {oA oB : Option (Value × List Value)} {oL : Option Nat} (h : TwR w0 oA oB oL W) : TwR w0 oB oA oL W := ⟨h.below, h.b, h.a, h.l, h.dis.swap⟩
theorem OwnO.next {b : Nat} {W W' : World} {o : Option (Value × List Value)} (h : OwnO b W o) (hb : Below W.heap.size W W') : OwnO b W' o := by
  rcases o with _ | ⟨v, xs⟩
  · trivial
  · exact own_below h hb
theorem BlkO.next {b : Nat} {W W' : World} {o : Option Nat} (h : BlkO b W o) (hb : Below W.heap.size W W') : BlkO b W' o := by
  rcases o with _ | g
  · trivial
  · exact ⟨h.1, (hb.block g (lt_of_block h.2)).trans h.2⟩
theorem TwR.start (w0 : World) : TwR w0 none none none w0.drew := ⟨Below.drew (Below.refl _ _), trivial, trivial, trivial, trivial⟩
theorem TwR.alloc0 (w0 : World) : TwR w0 none none (some w0.heap.size) (w0.alloc (.cells #[.slice none 0 0, .slice none 0 0] 51)).drew :=
  ⟨Below.drew ((Below.refl _ _).alloc (Nat.le_refl _) _), trivial, trivial, ⟨Nat.le_refl _, heap_alloc_new w0 _⟩, trivial⟩
theorem TwR.alloc {w0 W : World} {oA oB : Option (Value × List Value)} (h : TwR w0 oA oB none W) : TwR w0 oA oB (some W.heap.size) (W.alloc (.cells #[.slice none 0 0, .slice none 0 0] 51)) := by
  have hb : Below W.heap.size W (W.alloc (.cells #[.slice none 0 0, .slice none 0 0] 51)) := (Below.refl _ _).alloc (Nat.le_refl _) _
  exact ⟨h.below.trans (hb.mono h.below.size), h.a.next hb, h.b.next hb, ⟨h.below.size, heap_alloc_new _ _⟩, h.dis⟩
theorem TwR.newA {w0 W W' : World} {oB : Option (Value × List Value)} {oL : Option Nat} {v : Value} (h : TwR w0 none oB oL W) (ho : W'.ownsRow W.heap.size 3 1 v 0 []) (hb : Below W.heap.size W W') : TwR w0 (some (v, [])) oB oL W' :=
  ⟨h.below.trans (hb.mono h.below.size), own_base ho h.below.size, h.b.next hb, h.l.next hb, by
    rcases oB with _ | ⟨u, ys⟩
    · trivial
    · intro g h1 h2
      have e1 := (ho.lt g h1).1
      have e2 := (World.ownsRow.lt h.b g h2).2
      omega⟩
theorem TwR.newB {w0 W W' : World} {oA : Option (Value × List Value)} {oL : Option Nat} {v : Value} (h : TwR w0 oA none oL W) (ho : W'.ownsRow W.heap.size 3 1 v 0 []) (hb : Below W.heap.size W W') : TwR w0 oA (some (v, [])) oL W' := (h.swap.newA ho hb).swap
theorem TwR.ownA {w0 W : World} {oB : Option (Value × List Value)} {oL : Option Nat} {v : Value} {xs : List Value} (h : TwR w0 (some (v, xs)) oB oL W) : W.ownsRow w0.heap.size 3 1 v xs.length xs := h.a
theorem TwR.ownB {w0 W : World} {oA : Option (Value × List Value)} {oL : Option Nat} {v : Value} {xs : List Value} (h : TwR w0 oA (some (v, xs)) oL W) : W.ownsRow w0.heap.size 3 1 v xs.length xs := h.b
theorem TwR.appA {w0 W W' : World} {oB : Option (Value × List Value)} {oL : Option Nat} {v v' : Value} {xs news : List Value} {m : Nat} (h : TwR w0 (some (v, xs)) oB oL W) (ho : W'.ownsRow w0.heap.size 3 1 v' (xs.length + m) (xs ++ news)) (ht : Tch (fun k => v.ownBlock = some k) W W') (hat : v'.ownBlock = v.ownBlock ∨ v'.ownBlock = some W.heap.size) : TwR w0 (some (v', xs ++ news)) oB oL W' := by
  have hlen : (xs ++ news).length = xs.length + m := by have := ho.1; simpa using this
  have hbl : Below w0.heap.size w0 W' := h.below.trans (ht.below h.below.size (fun k hk e => by have := (h.ownA.lt k e).1; omega))
  refine ⟨hbl, ?_, ?_, ?_, ?_⟩
  · show W'.ownsRow _ _ _ _ _ _
    rw [hlen]; exact ho
  · rcases oB with _ | ⟨u, ys⟩
    · trivial
    · exact own_tch h.ownB ht (fun g hg e => h.dis g e hg)
  · rcases oL with _ | g
    · trivial
    · exact ⟨h.l.1, ht.blk h.l.2 (fun e => own_ne_blk h.ownA h.l.2 (by decide) e)⟩
  · rcases oB with _ | ⟨u, ys⟩
    · trivial
    · intro g h1 h2
      rcases hat with e | e
      · exact h.dis g (e ▸ h1) h2
      · rw [e] at h1; cases h1
        have := (h.ownB.lt _ h2).2
        omega
theorem TwR.appB {w0 W W' : World} {oA : Option (Value × List Value)} {oL : Option Nat} {v v' : Value} {xs news : List Value} {m : Nat} (h : TwR w0 oA (some (v, xs)) oL W) (ho : W'.ownsRow w0.heap.size 3 1 v' (xs.length + m) (xs ++ news)) (ht : Tch (fun k => v.ownBlock = some k) W W') (hat : v'.ownBlock = v.ownBlock ∨ v'.ownBlock = some W.heap.size) : TwR w0 oA (some (v', xs ++ news)) oL W' := (h.swap.appA ho ht hat).swap
section
variable {w0 : World} {ops : Array Oper} {o : Oper} {a : Act} {Q : Exit → Act → World → Prop} {w : World} {K : Act → World → Prop} {E : Prop} {oA oB : Option (Value × List Value)} {oL : Option Nat} {v : Value} {xs : List Value}
theorem TwR.extA (h : TwR w0 (some (v, xs)) oB oL w) (hgd : o.guard = none) (s x : Operand) (ho : o.op = .call { callee := .builtin .append, args := #[s, x], argTypes := #[22, 22] }) (hs : a.eval s = v) {A : Option Addr} {m c : Nat} {l : List Int} (hr : Hid (Sl w0 w0.heap.size 1 A m c (icells l))) (hx : a.eval x = .slice A m c) (hn : xs.length + m ≤ 1000000000000)
    (k : ∀ v' w', TwR w0 (some (v', xs ++ icells l)) oB oL w' → K (a.put o.dst v') w') : if Region.wanted o (yielded ops a.tmps) = true then Oper.wp Try.prog o a w K Q else E :=
  step_extend hgd s x 22 ho w0.heap.size 3 1 8 sliceInt v _ xs h.ownA hs w0.heap.size A m c (icells l) hx (hr.out.below h.below (Nat.le_refl _)) (fun u hu => by obtain ⟨_, _, rfl⟩ := List.mem_map.1 hu; rfl) hn (by omega) h.below.size (fun v' w' h1 h2 h3 _ => k v' w' (h.appA h1 h2 h3))
theorem TwR.extB (h : TwR w0 oA (some (v, xs)) oL w) (hgd : o.guard = none) (s x : Operand) (ho : o.op = .call { callee := .builtin .append, args := #[s, x], argTypes := #[22, 22] }) (hs : a.eval s = v) {A : Option Addr} {m c : Nat} {l : List Int} (hr : Hid (Sl w0 w0.heap.size 1 A m c (icells l))) (hx : a.eval x = .slice A m c) (hn : xs.length + m ≤ 1000000000000)
    (k : ∀ v' w', TwR w0 oA (some (v', xs ++ icells l)) oL w' → K (a.put o.dst v') w') : if Region.wanted o (yielded ops a.tmps) = true then Oper.wp Try.prog o a w K Q else E :=
  h.swap.extA hgd s x ho hs hr hx hn (fun v' w' h' => k v' w' h'.swap)
theorem TwR.empA (h : TwR w0 none oB oL w) (hgd : o.guard = none) (ho : o.op = .buildSlice 22 0 #[]) (k : ∀ v' w', TwR w0 (some (v', [])) oB oL w' → K (a.put o.dst v') w') : if Region.wanted o (yielded ops a.tmps) = true then Oper.wp Try.prog o a w K Q else E :=
  step_empty hgd 22 ho 3 1 8 sliceInt (fun w' v' _ h2 h3 _ => k v' w' (h.newA h2 h3))
theorem TwR.empB (h : TwR w0 oA none oL w) (hgd : o.guard = none) (ho : o.op = .buildSlice 22 0 #[]) (k : ∀ v' w', TwR w0 oA (some (v', [])) oL w' → K (a.put o.dst v') w') : if Region.wanted o (yielded ops a.tmps) = true then Oper.wp Try.prog o a w K Q else E :=
  h.swap.empA hgd ho (fun v' w' h' => k v' w' h'.swap)
end
/-- The lasso of twos, in its box. -/
def Twice (w0 : World) (xa xb : List Value) (p : Value) (wF : World) : Prop :=
  ∃ g A ca B cb, p = .pointer (some ⟨g, 0, none⟩) ∧ wF.cell? ⟨g, 0, none⟩ = some (.slice A xa.length ca) ∧ wF.cell? ⟨g, 1, none⟩ = some (.slice B xb.length cb) ∧ Sl wF wF.heap.size 1 A xa.length ca xa ∧ Sl wF wF.heap.size 1 B xb.length cb xb ∧ g < wF.heap.size ∧ Below w0.heap.size w0 wF
theorem TwR.close {w0 W : World} {g : Nat} {va vb : Value} {xa xb : List Value} (h : TwR w0 (some (va, xa)) (some (vb, xb)) (some g) W) :
    ∃ A ca B cb, va = .slice A xa.length ca ∧ vb = .slice B xb.length cb ∧ W.heap[g]? = some (.cells #[.slice none 0 0, .slice none 0 0] 51 (0, 0)) ∧ ∀ WF, WF = (W.setCell ⟨g, 0, none⟩ va).setCell ⟨g, 1, none⟩ vb → Twice w0 xa xb (.pointer (some ⟨g, 0, none⟩)) WF := by
  obtain ⟨A, ca, e1, s1⟩ := own_sl h.ownA
  obtain ⟨B, cb, e2, s2⟩ := own_sl h.ownB
  refine ⟨A, ca, B, cb, e1, e2, h.l.2, ?_⟩
  rintro WF rfl
  have ht : Tch (fun k => k = g) W ((W.setCell ⟨g, 0, none⟩ va).setCell ⟨g, 1, none⟩ vb) := ((Tch.refl (fun k => k = g) W).setCell (p := ⟨g, 0, none⟩) (fun _ => rfl) va).setCell (p := ⟨g, 1, none⟩) (fun _ => rfl) vb
  have oa := own_tch h.ownA ht (fun k hk e => own_ne_blk h.ownA h.l.2 (by decide) (e ▸ hk))
  have ob := own_tch h.ownB ht (fun k hk e => own_ne_blk h.ownB h.l.2 (by decide) (e ▸ hk))
  obtain ⟨A', ca', e1', s1'⟩ := own_sl oa
  obtain ⟨B', cb', e2', s2'⟩ := own_sl ob
  obtain ⟨⟨c0, c1⟩, _, hlt⟩ := blk2 h.l.2
  refine ⟨g, A', ca', B', cb', rfl, ?_, ?_, s1', s2', ?_, h.below.trans (ht.below h.below.size (fun k hk e => by have := h.l.1; omega))⟩
  · rw [← e1']
    exact (World.cell?_setCell_other _ _ _ _ (by simp)).trans (World.cell?_setCell_same _ _ _ c0)
  · rw [← e2']
    exact World.cell?_setCell_same _ _ _ ((World.cell?_setCell_other _ _ _ _ (by simp)).trans c1)
  · have := ht.size; omega

section
variable (ai ae al : Option Addr) (ni ci ne ce nl cl : Nat)
set_option maxHeartbeats 8000000 in
set_option maxRecDepth 100000 in
theorem FixTold_any (As : Option Addr) (ns cs : Nat) (s1 s2 : Option Addr) (n1 c1 n2 c2 : Nat) (G : Gph) (sets : List (List Bool)) (stem loop : List Int) (w : World) (B : Nat) (h : GrRd w B ai ni ci ae ne ce al nl cl G) (hs : Sl2 w B 1 As ns cs (sets.map bcells)) (hs1 : Sl w B 1 s1 n1 c1 (icells stem)) (hs2 : Sl w B 1 s2 n2 c2 (icells loop)) (hB : B ≤ w.heap.size) (hnl : nl ≤ 17592186044416) :
    Calls Try.prog 12 #[.agg #[.slice ai ni ci, .slice ae ne ce, .slice al nl cl], .slice As ns cs, .agg #[.slice s1 n1 c1, .slice s2 n2 c2]] w (Tru w true) := by
  obtain ⟨wb, hwb, hbb, hzb, ⟨hx0, hx1, hx2⟩, ⟨hy0, hy1⟩⟩ := boxed32 w (.slice ai ni ci) (.slice ae ne ce) (.slice al nl cl) (.slice s1 n1 c1) (.slice s2 n2 c2) 26 51
  have HWB := Lib.hid hwb
  have h' := h.below hbb hB
  have hs' := hs.below hbb hB
  have hs1' := hs1.below hbb hB
  have hs2' := hs2.below hbb hB
  have HHV := Lib.hid (heavyF_any ai ae al ni ci ne ce nl cl G sets As ns cs wb B h' hs' (by omega))
  obtain ⟨L1, L2, L3⟩ := h.lens
  have L4 : ns = sets.length := by have := hs.len; simpa using this
  have hgb : w.heap.size < wb.heap.size := by omega
  have hlb : w.heap.size + 1 < wb.heap.size := by omega
  have hBb : B ≤ wb.heap.size := by omega
  clear hwb hzb h hs hs1 hs2
  cases hv : heavyF G sets
  rotate_left 1
  · have HV := Lib.hid hv
    clear hv L1 L2 L3 L4
    go_enter Try.func12, Try.ntmps12
    go_wp2_with fail
    rw [← HWB.out]
    refine HHV.out.mono ?_
    rw [HV.out]
    rintro e w1 ⟨rfl, hb1⟩
    have hz1 := hb1.size
    have hgl1 : w.heap.size < w1.heap.size := by omega
    have hll1 : w.heap.size + 1 < w1.heap.size := by omega
    go_wp2_with fail
    refine (awakeF_any _).mono ?_
    rintro e w2 ⟨rfl, hb2⟩
    have HB2 := Lib.hid (hbb.trans ((hb1.trans (hb2.mono hb1.size)).mono (by omega)))
    go_wp2
    go_ret
    exact ⟨rfl, HB2.out⟩
  obtain ⟨q1, q2, q3, q4, q5⟩ := heavyF_bd hv
  obtain ⟨z, hz⟩ := gfp_exists G.edges (asksOf sets)
  have hzn : ne = z.length := by rw [hz.1, L2]
  have b1 : ne ≤ 60 := by omega
  have b2 : ni ≤ 60 := by omega
  have b3 : ns ≤ 8 := by omega
  have HV := Lib.hid hv
  have HZ := Lib.hid hz
  have HZN := Lib.hid hzn
  have HR := Lib.hid q4
  clear hv hz hzn q1 q2 q3 q4 q5 L1 L2 L3 L4
  by_cases p1 : 60 < n1
  · have d1 : decide ((60 : Int) < (n1 : Int)) = true := by simp; omega
    go_enter Try.func12, Try.ntmps12
    go_wp2_with fail
    rw [← HWB.out]
    refine HHV.out.mono ?_
    rw [HV.out]
    rintro e w1 ⟨rfl, hb1⟩
    have hz1 := hb1.size
    have hgl1 : w.heap.size < w1.heap.size := by omega
    have hll1 : w.heap.size + 1 < w1.heap.size := by omega
    have a0 := (hb1.cell (p := ⟨w.heap.size, 0, none⟩) hgb).trans hx0
    have a1 := (hb1.cell (p := ⟨w.heap.size, 1, none⟩) hgb).trans hx1
    have a2 := (hb1.cell (p := ⟨w.heap.size, 2, none⟩) hgb).trans hx2
    have a3 := (hb1.cell (p := ⟨w.heap.size + 1, 0, none⟩) hlb).trans hy0
    have a4 := (hb1.cell (p := ⟨w.heap.size + 1, 1, none⟩) hlb).trans hy1
    go_wp2_with fail
    refine (awakeF_any _).mono ?_
    rintro e w2 ⟨rfl, hb2⟩
    have HB2 := Lib.hid (hbb.trans ((hb1.trans (hb2.mono hb1.size)).mono (by omega)))
    go_wp2
    go_ret
    exact ⟨rfl, HB2.out⟩
  have d1 : decide ((60 : Int) < (n1 : Int)) = false := by simp; omega
  by_cases p2 : 60 < n2
  · have d2 : decide ((60 : Int) < (n2 : Int)) = true := by simp; omega
    go_enter Try.func12, Try.ntmps12
    go_wp2_with fail
    rw [← HWB.out]
    refine HHV.out.mono ?_
    rw [HV.out]
    rintro e w1 ⟨rfl, hb1⟩
    have hz1 := hb1.size
    have hgl1 : w.heap.size < w1.heap.size := by omega
    have hll1 : w.heap.size + 1 < w1.heap.size := by omega
    have a0 := (hb1.cell (p := ⟨w.heap.size, 0, none⟩) hgb).trans hx0
    have a1 := (hb1.cell (p := ⟨w.heap.size, 1, none⟩) hgb).trans hx1
    have a2 := (hb1.cell (p := ⟨w.heap.size, 2, none⟩) hgb).trans hx2
    have a3 := (hb1.cell (p := ⟨w.heap.size + 1, 0, none⟩) hlb).trans hy0
    have a4 := (hb1.cell (p := ⟨w.heap.size + 1, 1, none⟩) hlb).trans hy1
    go_wp2_with fail
    refine (awakeF_any _).mono ?_
    rintro e w2 ⟨rfl, hb2⟩
    have HB2 := Lib.hid (hbb.trans ((hb1.trans (hb2.mono hb1.size)).mono (by omega)))
    go_wp2
    go_ret
    exact ⟨rfl, HB2.out⟩
  have d2 : decide ((60 : Int) < (n2 : Int)) = false := by simp; omega
  have hG1 := fun (W : World) (hb : Below wb.heap.size wb W) => (h'.below hb hBb).up (show B ≤ W.heap.size by have := hb.size; omega)
  have hE1 := fun (W : World) (hb : Below wb.heap.size wb W) => (hs'.below hb hBb).up (show B ≤ W.heap.size by have := hb.size; omega)
  have hS1 := fun (W : World) (hb : Below wb.heap.size wb W) => (hs1'.below hb hBb).up (show B ≤ W.heap.size by have := hb.size; omega)
  have hS2 := fun (W : World) (hb : Below wb.heap.size wb W) => (hs2'.below hb hBb).up (show B ≤ W.heap.size by have := hb.size; omega)
  go_enter Try.func12, Try.ntmps12
  go_wp2_with fail
  rw [← HWB.out]
  refine HHV.out.mono ?_
  rw [HV.out]
  rintro e w1 ⟨rfl, hb1⟩
  have hz1 := hb1.size
  have hgl1 : w.heap.size < w1.heap.size := by omega
  have hll1 : w.heap.size + 1 < w1.heap.size := by omega
  have a0 := (hb1.cell (p := ⟨w.heap.size, 0, none⟩) hgb).trans hx0
  have a1 := (hb1.cell (p := ⟨w.heap.size, 1, none⟩) hgb).trans hx1
  have a2 := (hb1.cell (p := ⟨w.heap.size, 2, none⟩) hgb).trans hx2
  have a3 := (hb1.cell (p := ⟨w.heap.size + 1, 0, none⟩) hlb).trans hy0
  have a4 := (hb1.cell (p := ⟨w.heap.size + 1, 1, none⟩) hlb).trans hy1
  have hisb' := fis_any ai ae al ni ci ne ce nl cl G sets stem loop As ns cs s1 s2 n1 c1 n2 c2 w1 w1.heap.size (hG1 w1 hb1) (hE1 w1 hb1) (hS1 w1 hb1) (hS2 w1 hb1) (Nat.le_refl _) (by omega) (by omega) (fun l hl => by have := HR.out l hl; omega) (by omega) (by omega) (by omega)
  cases hib : isB ne G.edges G.init sets stem loop
  · have HIB := Lib.hid hib
    clear hib
    go_wp2_with fail
    refine hisb'.mono ?_
    rw [HIB.out]
    rintro e w2 ⟨rfl, hb2⟩
    clear hisb'
    go_wp2_with fail
    refine (awakeF_any _).mono ?_
    rintro e w3 ⟨rfl, hb3⟩
    have HB3 := Lib.hid (hbb.trans ((hb1.trans ((hb2.trans (hb3.mono hb2.size)).mono hz1)).mono (by omega)))
    go_wp2
    go_ret
    exact ⟨rfl, HB3.out⟩
  · have HIB := Lib.hid hib
    have hisl := isB_iff.1 hib
    have hnl : ne = G.edges.length := by rw [HZN.out, HZ.out.1]
    have hisl' : IsL G.edges.length G.edges G.init sets stem loop := by rw [← hnl]; exact hisl
    have hstay := hisl'.stay HZ.out
    have HIN : Hid (initB z G.init = true) := Lib.hid (hisl'.initB HZ.out)
    have HTW : Hid (isB ne G.edges G.init sets (stem ++ loop) (loop ++ loop) = true) := Lib.hid (isB_iff.2 hisl.twice)
    have HLS : Hid (n1 = stem.length) := Lib.hid (by have := (hS1 w1 hb1).len; simp [icells] at this; omega)
    have HLL : Hid (n2 = loop.length) := Lib.hid (by have := (hS2 w1 hb1).len; simp [icells] at this; omega)
    have hn2 : 0 < n2 := by
      rw [HLL.out]; exact List.length_pos_iff.2 hisl.ne
    have HST := Lib.hid hstay
    clear hib hisl hnl hisl' hstay
    go_wp2_with fail
    refine hisb'.mono ?_
    rw [HIB.out]
    rintro e w2 ⟨rfl, hb2⟩
    clear hisb' a0 a1 a2 a3 a4
    have hbw2 : Below wb.heap.size wb w2 := hb1.trans (hb2.mono hz1)
    have hz2 := hbw2.size
    have hgl2 : w.heap.size < w2.heap.size := by omega
    have hll2 : w.heap.size + 1 < w2.heap.size := by omega
    have a0 := (hbw2.cell (p := ⟨w.heap.size, 0, none⟩) hgb).trans hx0
    have a1 := (hbw2.cell (p := ⟨w.heap.size, 1, none⟩) hgb).trans hx1
    have a2 := (hbw2.cell (p := ⟨w.heap.size, 2, none⟩) hgb).trans hx2
    have a3 := (hbw2.cell (p := ⟨w.heap.size + 1, 0, none⟩) hlb).trans hy0
    have a4 := (hbw2.cell (p := ⟨w.heap.size + 1, 1, none⟩) hlb).trans hy1
    go_wp2_with fail
    refine (ffair_any ai ae al ni ci ne ce nl cl G sets As ns cs z w2 w2.heap.size ((hG1 w2 hbw2).up (Nat.le_refl _)) (hE1 w2 hbw2) HZ.out (Nat.le_refl _) (by omega) 30 HR.out (by omega) (by omega)).mono ?_
    rintro e w0 ⟨vz, rfl, hOz, hb3, _⟩
    obtain ⟨Az, cz, rfl, hsz⟩ := own_sl hOz
    have hbw0 : Below wb.heap.size wb w0 := hbw2.trans (hb3.mono hz2)
    have HSZ := Lib.hid hsz
    clear hOz hsz hb3 a0 a1 a2 a3 a4
    have hz0 := hbw0.size
    have hgl : w.heap.size < w0.heap.size := by omega
    have hll : w.heap.size + 1 < w0.heap.size := by omega
    have a0 := (hbw0.cell (p := ⟨w.heap.size, 0, none⟩) hgb).trans hx0
    have a1 := (hbw0.cell (p := ⟨w.heap.size, 1, none⟩) hgb).trans hx1
    have a2 := (hbw0.cell (p := ⟨w.heap.size, 2, none⟩) hgb).trans hx2
    have a3 := (hbw0.cell (p := ⟨w.heap.size + 1, 0, none⟩) hlb).trans hy0
    have a4 := (hbw0.cell (p := ⟨w.heap.size + 1, 1, none⟩) hlb).trans hy1
    have HS1 := Lib.hid (hS1 w0 hbw0)
    have HS2 := Lib.hid (hS2 w0 hbw0)
    have hso : ∀ w', Below w0.heap.size w0 w' → w'.cell? ⟨w.heap.size + 1, 0, none⟩ = some (.slice s1 n1 c1) ∧ w'.cell? ⟨w.heap.size + 1, 1, none⟩ = some (.slice s2 n2 c2) := fun w' hb => ⟨(hb.cell (p := ⟨w.heap.size + 1, 0, none⟩) hll).trans a3, (hb.cell (p := ⟨w.heap.size + 1, 1, none⟩) hll).trans a4⟩
    have HSO := Lib.hid hso
    clear hso
    have hd1 : ((ne : Int) != (ne : Int)) = false := by simp
    have hd2 : ((n2 : Int) == 0) = false := by simp; omega
    have HQ0 : Hid (([] : List Value).length + n1 ≤ 1000000000000) := Lib.hid (by simp; omega)
    have HQ1 : Hid (([] ++ icells stem).length + n2 ≤ 1000000000000) := Lib.hid (by have := HLS.out; simp [icells]; omega)
    have hT0 := TwR.start w0
    go_wp2_with fail
    refine wp_region_held_drew (S := fun w' => w'.cell? ⟨w.heap.size + 1, 0, none⟩ = some (.slice s1 n1 c1) ∧ w'.cell? ⟨w.heap.size + 1, 1, none⟩ = some (.slice s2 n2 c2)) (by kernel_rfl) ⟨a3, a4⟩ (fun hS => ?_)
    refine wpAnyH_takeD (i := 1) (v := ?_) rfl (by kernel_rfl) (by kernel_rfl) (by kernel_rfl) (fun _ _ _ h => h) (Or.inl ⟨by kernel_rfl, ?_⟩) hS ?_
    rotate_left 1
    · (intro w' hSw; (try dsimp only at hSw); go_simp; try (with_reducible rfl))
    try simp only [Act.put, List.setIfInBounds_toArray, List.set_cons_zero, List.set_cons_succ]
    refine wpAnyH_takeD (i := 2) (v := ?_) rfl (by kernel_rfl) (by kernel_rfl) (by kernel_rfl) (fun _ _ _ h => h) (Or.inl ⟨by kernel_rfl, ?_⟩) hS ?_
    rotate_left 1
    · (intro w' hSw; (try dsimp only at hSw); go_simp; try (with_reducible rfl))
    try simp only [Act.put, List.setIfInBounds_toArray, List.set_cons_zero, List.set_cons_succ]
    refine wpAnyH_takeD (i := 4) (v := ?_) rfl (by kernel_rfl) (by kernel_rfl) (by kernel_rfl) (fun _ _ _ h => h) (Or.inl ⟨by kernel_rfl, ?_⟩) hS ?_
    rotate_left 1
    · (intro w' hSw; (try dsimp only at hSw); go_simp; try (with_reducible rfl))
    try simp only [Act.put, List.setIfInBounds_toArray, List.set_cons_zero, List.set_cons_succ]
    refine wpAnyH_takeD (i := 5) (v := ?_) rfl (by kernel_rfl) (by kernel_rfl) (by kernel_rfl) (fun _ _ _ h => h) (Or.inl ⟨by kernel_rfl, ?_⟩) hS ?_
    rotate_left 1
    · (intro w' hSw; (try dsimp only at hSw); go_simp; try (with_reducible rfl))
    try simp only [Act.put, List.setIfInBounds_toArray, List.set_cons_zero, List.set_cons_succ]
    refine wpAnyH_oneD (i := 0) rfl (by kernel_rfl) (fun K hK => ?_)
    refine hT0.empA rfl rfl ?_
    intro vV1001 V1001 hTV1001
    refine hK.out _ _ (HSO.out _ hTV1001.below) (fun hS => ?_)
    clear hK
    try simp only [Act.put, List.setIfInBounds_toArray, List.set_cons_zero, List.set_cons_succ]
    refine wpAnyH_oneD (i := 3) rfl (by kernel_rfl) (fun K hK => ?_)
    refine hTV1001.extA rfl (.tmp 49) (.tmp 51) rfl (by rfl) HS1 (by rfl) HQ0.out ?_
    intro vV1002 V1002 hTV1002
    refine hK.out _ _ (HSO.out _ hTV1002.below) (fun hS => ?_)
    clear hK
    try simp only [Act.put, List.setIfInBounds_toArray, List.set_cons_zero, List.set_cons_succ]
    refine wpAnyH_oneD (i := 6) rfl (by kernel_rfl) (fun K hK => ?_)
    refine hTV1002.extA rfl (.tmp 52) (.tmp 54) rfl (by rfl) HS2 (by rfl) HQ1.out ?_
    intro vV1003 V1003 hTV1003
    refine hK.out _ _ (HSO.out _ hTV1003.below) (fun hS => ?_)
    clear hK
    try simp only [Act.put, List.setIfInBounds_toArray, List.set_cons_zero, List.set_cons_succ]
    refine wpAnyH_takeD (i := 7) (v := ?_) rfl (by kernel_rfl) (by kernel_rfl) (by kernel_rfl) (fun _ _ _ h => h) (Or.inl ⟨by kernel_rfl, ?_⟩) hS ?_
    rotate_left 1
    · (intro w' hSw; (try dsimp only at hSw); go_simp; try (with_reducible rfl))
    try simp only [Act.put, List.setIfInBounds_toArray, List.set_cons_zero, List.set_cons_succ]
    refine wpAnyH_done (by kernel_rfl) ?_ _
    obtain ⟨w3, hw3⟩ : ∃ W, W = V1003 := ⟨_, rfl⟩
    rw [← hw3] at hTV1003
    rw [← hw3]
    clear hw3
    have hO3 := hTV1003.ownA
    have hbx3 := hTV1003.below
    have hlen : (([] ++ icells stem) ++ icells loop).length = n1 + n2 := by have := HLS.out; have := HLL.out; simp [icells]; omega
    have hx3 : ([] ++ icells stem) ++ icells loop = icells (stem ++ loop) := by simp [icells]
    rw [hlen] at hO3
    rw [hx3] at hO3
    obtain ⟨A3, c3, e3, hs3⟩ := own_sl hO3
    subst e3
    have hlL : (stem ++ loop).length = n1 + n2 := by have := HLS.out; have := HLL.out; simp; omega
    have hz3 := hbx3.size
    have HLL3 := Lib.hid hlL
    clear hO3 hlen hx3 hlL hTV1003
    have HA := Lib.hid (And.intro a0 (And.intro a1 (And.intro a2 (And.intro a3 a4))))
    clear a0 a1 a2 a3 a4
    go_wp2
    go_loopw [9] (fun i wr => ∃ k : Nat, k ≤ n1 + n2 ∧ i = .int .i64 k ∧ Below w3.heap.size w3 wr) (fun i _ => n1 + n2 - (intOf i).toNat)
    case atStart => exact ⟨0, by omega, rfl, Below.refl _ _⟩
    case round =>
      obtain ⟨k, hk, rfl, hbx⟩ := hrel
      have hbx0 : Below w0.heap.size w0 wr := hbx3.trans (hbx.mono hz3)
      have hszx := hbx.size
      have hzlx : w.heap.size < wr.heap.size := by omega
      by_cases hlt : k < n1 + n2
      · have hkL : k < (stem ++ loop).length := by rw [HLL3.out]; exact hlt
        obtain ⟨b3, o3, hA3, hb3x', hck⟩ := (hs3.rd.below hbx (Nat.le_refl _)).at_ (icells_at hkL)
        subst hA3
        have hy := HST.out _ (List.getElem_mem hkL)
        generalize (stem ++ loop)[k] = y at *
        obtain ⟨x, rfl, hxl, hxz⟩ := hasB_iff.1 hy
        obtain ⟨zb, zo, hAz, hzb', hzc⟩ := (HSZ.out.rd.below hbx0 (Nat.le_refl _)).at_ (bcells'_at hxl)
        subst hAz
        rw [hxz] at hzc
        have hxe : x < ne := by rw [HZN.out]; exact hxl
        have hND : isNd ne (x : Int) = true := by simp [isNd]; omega
        have HND := Lib.hid hND
        have e0 := (hbx0.cell (p := ⟨w.heap.size, 0, none⟩) hgl).trans HA.out.1
        have e1 := (hbx0.cell (p := ⟨w.heap.size, 1, none⟩) hgl).trans HA.out.2.1
        have e2 := (hbx0.cell (p := ⟨w.heap.size, 2, none⟩) hgl).trans HA.out.2.2.1
        have hb3x : b3 < wr.heap.size := by omega
        have hzbx : zb < wr.heap.size := by omega
        have x0 : (0 : Int) ≤ (x : Int) := by omega
        have x1 : (x : Int) < (ne : Int) := by omega
        have i0 : (0 : Int) ≤ (k : Int) := by omega
        have i1 : (k : Int) < ((n1 + n2 : Nat) : Int) := by omega
        have HBX := Lib.hid hbx
        clear hy hxl hxz hND hbx
        go_wp2_with fail
        refine wp_region_held_drew (S := fun w' => w'.cell? ⟨w.heap.size, 0, none⟩ = some (.slice ai ni ci) ∧ w'.cell? ⟨w.heap.size, 1, none⟩ = some (.slice ae ne ce) ∧ w'.cell? ⟨w.heap.size, 2, none⟩ = some (.slice al nl cl) ∧ w'.cell? ⟨b3, o3 + k, none⟩ = some (.int .i64 (x : Int)) ∧ w'.cell? ⟨zb, zo + x, none⟩ = some (.bool true)) (by kernel_rfl) ⟨e0, e1, e2, hck, hzc⟩ (fun hS => ?_)
        refine wpAnyH_takeD (i := 0) (v := ?_) rfl (by kernel_rfl) (by kernel_rfl) (by kernel_rfl) (fun _ _ _ h => h) (Or.inl ⟨by kernel_rfl, ?_⟩) hS ?_
        rotate_left 1
        · (intro w' hSw; (try dsimp only at hSw); go_simp; try (with_reducible rfl))
        try simp only [Act.put, List.setIfInBounds_toArray, List.set_cons_zero, List.set_cons_succ]
        refine wpAnyH_takeD (i := 1) (v := ?_) rfl (by kernel_rfl) (by kernel_rfl) (by kernel_rfl) (fun _ _ _ h => h) (Or.inl ⟨by kernel_rfl, ?_⟩) hS ?_
        rotate_left 1
        · (intro w' hSw; (try dsimp only at hSw); go_simp; try (with_reducible rfl))
        try simp only [Act.put, List.setIfInBounds_toArray, List.set_cons_zero, List.set_cons_succ]
        refine wpAnyH_takeD (i := 2) (v := ?_) rfl (by kernel_rfl) (by kernel_rfl) (by kernel_rfl) (fun _ _ _ h => h) (Or.inl ⟨by kernel_rfl, ?_⟩) hS ?_
        rotate_left 1
        · (intro w' hSw; (try dsimp only at hSw); go_simp; try (with_reducible rfl))
        try simp only [Act.put, List.setIfInBounds_toArray, List.set_cons_zero, List.set_cons_succ]
        refine wpAnyH_takeD (i := 3) (v := ?_) rfl (by kernel_rfl) (by kernel_rfl) (by kernel_rfl) (fun _ _ _ h => h) (Or.inl ⟨by kernel_rfl, ?_⟩) hS ?_
        rotate_left 1
        · (intro w' hSw; (try dsimp only at hSw); go_simp; try (with_reducible rfl))
        try simp only [Act.put, List.setIfInBounds_toArray, List.set_cons_zero, List.set_cons_succ]
        refine wpAnyH_takeD (i := 4) (v := ?_) rfl (by kernel_rfl) (by kernel_rfl) (by kernel_rfl) (fun _ _ _ h => h) (Or.inl ⟨by kernel_rfl, ?_⟩) hS ?_
        rotate_left 1
        · (intro w' hSw; (try dsimp only at hSw); go_simp; try (with_reducible rfl))
        try simp only [Act.put, List.setIfInBounds_toArray, List.set_cons_zero, List.set_cons_succ]
        refine wpAnyH_oneD (i := 5) rfl (by kernel_rfl) (fun K hK => ?_)
        go_simp
        refine (nodeR_any ai ae al ni ci ne ce nl cl (x : Int) _).mono ?_
        rw [HND.out]
        rintro e w5 ⟨rfl, hb5'⟩
        have hb5 : Below wr.heap.size wr w5 := below_undrew hb5'
        have k0 := (hb5.cell (p := ⟨w.heap.size, 0, none⟩) hzlx).trans e0
        have k1 := (hb5.cell (p := ⟨w.heap.size, 1, none⟩) hzlx).trans e1
        have k2 := (hb5.cell (p := ⟨w.heap.size, 2, none⟩) hzlx).trans e2
        have k3 := (hb5.cell (p := ⟨b3, o3 + k, none⟩) hb3x).trans hck
        have k4 := (hb5.cell (p := ⟨zb, zo + x, none⟩) hzbx).trans hzc
        go_wp2_with fail
        refine hK.out _ _ ⟨k0, k1, k2, k3, k4⟩ (fun hS => ?_)
        clear hK
        try simp only [Act.put, List.setIfInBounds_toArray, List.set_cons_zero, List.set_cons_succ]
        refine wpAnyH_takeD (i := 6) (v := ?_) rfl (by kernel_rfl) (by kernel_rfl) (by kernel_rfl) (fun _ _ _ h => h) (Or.inl ⟨by kernel_rfl, ?_⟩) hS ?_
        rotate_left 1
        · (intro w' hSw; (try dsimp only at hSw); go_simp; try (with_reducible rfl))
        try simp only [Act.put, List.setIfInBounds_toArray, List.set_cons_zero, List.set_cons_succ]
        refine wpAnyH_takeD (i := 7) (v := ?_) rfl (by kernel_rfl) (by kernel_rfl) (by kernel_rfl) (fun _ _ _ h => h) (Or.inl ⟨by kernel_rfl, ?_⟩) hS ?_
        rotate_left 1
        · (intro w' hSw; (try dsimp only at hSw); go_simp; try (with_reducible rfl))
        try simp only [Act.put, List.setIfInBounds_toArray, List.set_cons_zero, List.set_cons_succ]
        refine wpAnyH_takeD (i := 8) (v := ?_) rfl (by kernel_rfl) (by kernel_rfl) (by kernel_rfl) (fun _ _ _ h => h) (Or.inl ⟨by kernel_rfl, ?_⟩) hS ?_
        rotate_left 1
        · (intro w' hSw; (try dsimp only at hSw); go_simp; try (with_reducible rfl))
        try simp only [Act.put, List.setIfInBounds_toArray, List.set_cons_zero, List.set_cons_succ]
        refine wpAnyH_takeD (i := 9) (v := ?_) rfl (by kernel_rfl) (by kernel_rfl) (by kernel_rfl) (fun _ _ _ h => h) (Or.inl ⟨by kernel_rfl, ?_⟩) hS ?_
        rotate_left 1
        · (intro w' hSw; (try dsimp only at hSw); go_simp; try (with_reducible rfl))
        try simp only [Act.put, List.setIfInBounds_toArray, List.set_cons_zero, List.set_cons_succ]
        refine wpAnyH_takeD (i := 10) (v := ?_) rfl (by kernel_rfl) (by kernel_rfl) (by kernel_rfl) (fun _ _ _ h => h) (Or.inl ⟨by kernel_rfl, ?_⟩) hS ?_
        rotate_left 1
        · (intro w' hSw; (try dsimp only at hSw); go_simp; try (with_reducible rfl))
        try simp only [Act.put, List.setIfInBounds_toArray, List.set_cons_zero, List.set_cons_succ]
        refine wpAnyH_takeD (i := 11) (v := ?_) rfl (by kernel_rfl) (by kernel_rfl) (by kernel_rfl) (fun _ _ _ h => h) (Or.inl ⟨by kernel_rfl, ?_⟩) hS ?_
        rotate_left 1
        · (intro w' hSw; (try dsimp only at hSw); go_simp; try (with_reducible rfl))
        try simp only [Act.put, List.setIfInBounds_toArray, List.set_cons_zero, List.set_cons_succ]
        refine wpAnyH_takeD (i := 12) (v := ?_) rfl (by kernel_rfl) (by kernel_rfl) (by kernel_rfl) (fun _ _ _ h => h) (Or.inl ⟨by kernel_rfl, ?_⟩) hS ?_
        rotate_left 1
        · (intro w' hSw; (try dsimp only at hSw); go_simp; try (with_reducible rfl))
        try simp only [Act.put, List.setIfInBounds_toArray, List.set_cons_zero, List.set_cons_succ]
        refine wpAnyH_takeD (i := 13) (v := ?_) rfl (by kernel_rfl) (by kernel_rfl) (by kernel_rfl) (fun _ _ _ h => h) (Or.inl ⟨by kernel_rfl, ?_⟩) hS ?_
        rotate_left 1
        · (intro w' hSw; (try dsimp only at hSw); go_simp; try (with_reducible rfl))
        try simp only [Act.put, List.setIfInBounds_toArray, List.set_cons_zero, List.set_cons_succ]
        refine wpAnyH_takeD (i := 14) (v := ?_) rfl (by kernel_rfl) (by kernel_rfl) (by kernel_rfl) (fun _ _ _ h => h) (Or.inl ⟨by kernel_rfl, ?_⟩) hS ?_
        rotate_left 1
        · (intro w' hSw; (try dsimp only at hSw); go_simp; try (with_reducible rfl))
        try simp only [Act.put, List.setIfInBounds_toArray, List.set_cons_zero, List.set_cons_succ]
        refine wpAnyH_takeD (i := 15) (v := ?_) rfl (by kernel_rfl) (by kernel_rfl) (by kernel_rfl) (fun _ _ _ h => h) (Or.inl ⟨by kernel_rfl, ?_⟩) hS ?_
        rotate_left 1
        · (intro w' hSw; (try dsimp only at hSw); go_simp; try (with_reducible rfl))
        try simp only [Act.put, List.setIfInBounds_toArray, List.set_cons_zero, List.set_cons_succ]
        refine wpAnyH_takeD (i := 16) (v := ?_) rfl (by kernel_rfl) (by kernel_rfl) (by kernel_rfl) (fun _ _ _ h => h) (Or.inl ⟨by kernel_rfl, ?_⟩) hS ?_
        rotate_left 1
        · (intro w' hSw; (try dsimp only at hSw); go_simp; try (with_reducible rfl))
        try simp only [Act.put, List.setIfInBounds_toArray, List.set_cons_zero, List.set_cons_succ]
        refine wpAnyH_done (by kernel_rfl) ?_ _
        have HB5 := Lib.hid (HBX.out.trans (hb5.mono HBX.out.size))
        clear e0 e1 e2 hck hzc k0 k1 k2 k3 k4
        go_wp2
        go_roundw
        case rel => exact ⟨k + 1, by omega, by go_num, HB5.out⟩
        case measure => simp [intOf]; omega
      · obtain ⟨w4, rfl⟩ : ∃ W, W = wr := ⟨_, rfl⟩
        have hbw4 : Below wb.heap.size wb w4 := hbw0.trans (hbx0.mono hz0)
        have hz4 := hbw4.size
        have a0 := (hbw4.cell (p := ⟨w.heap.size, 0, none⟩) hgb).trans hx0
        have a1 := (hbw4.cell (p := ⟨w.heap.size, 1, none⟩) hgb).trans hx1
        have a2 := (hbw4.cell (p := ⟨w.heap.size, 2, none⟩) hgb).trans hx2
        have a3 := (hbw4.cell (p := ⟨w.heap.size + 1, 0, none⟩) hlb).trans hy0
        have a4 := (hbw4.cell (p := ⟨w.heap.size + 1, 1, none⟩) hlb).trans hy1
        have hll4 : w.heap.size + 1 < w4.heap.size := by omega
        have HS3 := Lib.hid (hS1 w4 hbw4)
        have HS4 := Lib.hid (hS2 w4 hbw4)
        have hsp : ∀ w', Below w4.heap.size w4 w' → w'.cell? ⟨w.heap.size + 1, 0, none⟩ = some (.slice s1 n1 c1) ∧ w'.cell? ⟨w.heap.size + 1, 1, none⟩ = some (.slice s2 n2 c2) := fun w' hb => ⟨(hb.cell (p := ⟨w.heap.size + 1, 0, none⟩) hll4).trans a3, (hb.cell (p := ⟨w.heap.size + 1, 1, none⟩) hll4).trans a4⟩
        have HSP := Lib.hid hsp
        have HQ2 : Hid (([] ++ icells loop).length + n2 ≤ 1000000000000) := Lib.hid (by have := HLL.out; simp [icells]; omega)
        have HQ3 : Hid (([] : List Value).length + n2 ≤ 1000000000000) := Lib.hid (by simp; omega)
        have hT0 := TwR.start w4
        have hnl : ¬ ((k : Int) < ((n1 + n2 : Nat) : Int)) := by omega
        clear hsp hs3 hbx
        go_wp2_with fail
        go_cut [10] from 11 (fun p wF => Twice w4 (([] ++ icells stem) ++ icells loop) (([] ++ icells loop) ++ icells loop) p wF)
        case first =>
          clear a0 a1 a2
          have Q1 : Hid ((([] ++ icells stem) ++ icells loop).length = n1 + n2) := Lib.hid (by have := HLS.out; have := HLL.out; simp [icells]; omega)
          have Q2 : Hid ((([] ++ icells loop) ++ icells loop).length = n2 + n2) := Lib.hid (by have := HLS.out; have := HLL.out; simp [icells]; omega)
          refine wp_region_held_drew (S := fun w' => w'.cell? ⟨w.heap.size + 1, 0, none⟩ = some (.slice s1 n1 c1) ∧ w'.cell? ⟨w.heap.size + 1, 1, none⟩ = some (.slice s2 n2 c2)) (by kernel_rfl) ⟨a3, a4⟩ (fun hS => ?_)
          refine wpAnyH_takeD (i := 1) (v := ?_) rfl (by kernel_rfl) (by kernel_rfl) (by kernel_rfl) (fun _ _ _ h => h) (Or.inl ⟨by kernel_rfl, ?_⟩) hS ?_
          rotate_left 1
          · (intro w' hSw; (try dsimp only at hSw); go_simp; try (with_reducible rfl))
          try simp only [Act.put, List.setIfInBounds_toArray, List.set_cons_zero, List.set_cons_succ]
          refine wpAnyH_takeD (i := 2) (v := ?_) rfl (by kernel_rfl) (by kernel_rfl) (by kernel_rfl) (fun _ _ _ h => h) (Or.inl ⟨by kernel_rfl, ?_⟩) hS ?_
          rotate_left 1
          · (intro w' hSw; (try dsimp only at hSw); go_simp; try (with_reducible rfl))
          try simp only [Act.put, List.setIfInBounds_toArray, List.set_cons_zero, List.set_cons_succ]
          refine wpAnyH_takeD (i := 4) (v := ?_) rfl (by kernel_rfl) (by kernel_rfl) (by kernel_rfl) (fun _ _ _ h => h) (Or.inl ⟨by kernel_rfl, ?_⟩) hS ?_
          rotate_left 1
          · (intro w' hSw; (try dsimp only at hSw); go_simp; try (with_reducible rfl))
          try simp only [Act.put, List.setIfInBounds_toArray, List.set_cons_zero, List.set_cons_succ]
          refine wpAnyH_takeD (i := 5) (v := ?_) rfl (by kernel_rfl) (by kernel_rfl) (by kernel_rfl) (fun _ _ _ h => h) (Or.inl ⟨by kernel_rfl, ?_⟩) hS ?_
          rotate_left 1
          · (intro w' hSw; (try dsimp only at hSw); go_simp; try (with_reducible rfl))
          try simp only [Act.put, List.setIfInBounds_toArray, List.set_cons_zero, List.set_cons_succ]
          refine wpAnyH_takeD (i := 8) (v := ?_) rfl (by kernel_rfl) (by kernel_rfl) (by kernel_rfl) (fun _ _ _ h => h) (Or.inl ⟨by kernel_rfl, ?_⟩) hS ?_
          rotate_left 1
          · (intro w' hSw; (try dsimp only at hSw); go_simp; try (with_reducible rfl))
          try simp only [Act.put, List.setIfInBounds_toArray, List.set_cons_zero, List.set_cons_succ]
          refine wpAnyH_takeD (i := 9) (v := ?_) rfl (by kernel_rfl) (by kernel_rfl) (by kernel_rfl) (fun _ _ _ h => h) (Or.inl ⟨by kernel_rfl, ?_⟩) hS ?_
          rotate_left 1
          · (intro w' hSw; (try dsimp only at hSw); go_simp; try (with_reducible rfl))
          try simp only [Act.put, List.setIfInBounds_toArray, List.set_cons_zero, List.set_cons_succ]
          refine wpAnyH_takeD (i := 11) (v := ?_) rfl (by kernel_rfl) (by kernel_rfl) (by kernel_rfl) (fun _ _ _ h => h) (Or.inl ⟨by kernel_rfl, ?_⟩) hS ?_
          rotate_left 1
          · (intro w' hSw; (try dsimp only at hSw); go_simp; try (with_reducible rfl))
          try simp only [Act.put, List.setIfInBounds_toArray, List.set_cons_zero, List.set_cons_succ]
          refine wpAnyH_takeD (i := 12) (v := ?_) rfl (by kernel_rfl) (by kernel_rfl) (by kernel_rfl) (fun _ _ _ h => h) (Or.inl ⟨by kernel_rfl, ?_⟩) hS ?_
          rotate_left 1
          · (intro w' hSw; (try dsimp only at hSw); go_simp; try (with_reducible rfl))
          try simp only [Act.put, List.setIfInBounds_toArray, List.set_cons_zero, List.set_cons_succ]
          refine wpAnyH_ready (rs := [0, 7, 15]) (by kernel_rfl) (by simp) ?_
          refine (allReadyH_consD (i := 0) rfl (fun K hK => ?_) (allReadyH_consD (i := 7) rfl (fun K hK => ?_) (allReadyH_consD (i := 15) rfl (fun K hK => ?_) AllReadyH.nil)))
          next =>
           refine hT0.empA rfl rfl ?_
           intro vV1 V1 hTV1
           refine hK.out _ _ (HSP.out _ hTV1.below) (fun hS => ?_)
           clear hK
           try simp only [Act.put, List.setIfInBounds_toArray, List.set_cons_zero, List.set_cons_succ]
           refine wpAnyH_ready (rs := [3, 7, 15]) (by kernel_rfl) (by simp) ?_
           refine (allReadyH_consD (i := 3) rfl (fun K hK => ?_) (allReadyH_consD (i := 7) rfl (fun K hK => ?_) (allReadyH_consD (i := 15) rfl (fun K hK => ?_) AllReadyH.nil)))
           next =>
            refine hTV1.extA rfl (.tmp 79) (.tmp 81) rfl (by rfl) HS3 (by rfl) HQ0.out ?_
            intro vV2 V2 hTV2
            refine hK.out _ _ (HSP.out _ hTV2.below) (fun hS => ?_)
            clear hK
            try simp only [Act.put, List.setIfInBounds_toArray, List.set_cons_zero, List.set_cons_succ]
            refine wpAnyH_ready (rs := [6, 7, 15]) (by kernel_rfl) (by simp) ?_
            refine (allReadyH_consD (i := 6) rfl (fun K hK => ?_) (allReadyH_consD (i := 7) rfl (fun K hK => ?_) (allReadyH_consD (i := 15) rfl (fun K hK => ?_) AllReadyH.nil)))
            next =>
             refine hTV2.extA rfl (.tmp 82) (.tmp 84) rfl (by rfl) HS4 (by rfl) HQ1.out ?_
             intro vV3 V3 hTV3
             refine hK.out _ _ (HSP.out _ hTV3.below) (fun hS => ?_)
             clear hK
             try simp only [Act.put, List.setIfInBounds_toArray, List.set_cons_zero, List.set_cons_succ]
             refine wpAnyH_ready (rs := [7, 15]) (by kernel_rfl) (by simp) ?_
             refine (allReadyH_consD (i := 7) rfl (fun K hK => ?_) (allReadyH_consD (i := 15) rfl (fun K hK => ?_) AllReadyH.nil))
             next =>
              refine hTV3.empB rfl rfl ?_
              intro vV4 V4 hTV4
              refine hK.out _ _ (HSP.out _ hTV4.below) (fun hS => ?_)
              clear hK
              try simp only [Act.put, List.setIfInBounds_toArray, List.set_cons_zero, List.set_cons_succ]
              refine wpAnyH_ready (rs := [10, 15]) (by kernel_rfl) (by simp) ?_
              refine (allReadyH_consD (i := 10) rfl (fun K hK => ?_) (allReadyH_consD (i := 15) rfl (fun K hK => ?_) AllReadyH.nil))
              next =>
               refine hTV4.extB rfl (.tmp 86) (.tmp 88) rfl (by rfl) HS4 (by rfl) HQ3.out ?_
               intro vV5 V5 hTV5
               refine hK.out _ _ (HSP.out _ hTV5.below) (fun hS => ?_)
               clear hK
               try simp only [Act.put, List.setIfInBounds_toArray, List.set_cons_zero, List.set_cons_succ]
               refine wpAnyH_ready (rs := [13, 15]) (by kernel_rfl) (by simp) ?_
               refine (allReadyH_consD (i := 13) rfl (fun K hK => ?_) (allReadyH_consD (i := 15) rfl (fun K hK => ?_) AllReadyH.nil))
               next =>
                refine hTV5.extB rfl (.tmp 89) (.tmp 91) rfl (by rfl) HS4 (by rfl) HQ2.out ?_
                intro vV6 V6 hTV6
                refine hK.out _ _ (HSP.out _ hTV6.below) (fun hS => ?_)
                clear hK
                try simp only [Act.put, List.setIfInBounds_toArray, List.set_cons_zero, List.set_cons_succ]
                obtain ⟨AA, ca, eA, _⟩ := own_sl hTV6.ownA
                obtain ⟨BB, cb, eB, _⟩ := own_sl hTV6.ownB
                rw [Q1.out] at eA
                rw [Q2.out] at eB
                subst eA eB
                refine wpAnyH_takeD (i := 14) (v := ?_) rfl (by kernel_rfl) (by kernel_rfl) (by kernel_rfl) (fun _ _ _ h => h) (Or.inl ⟨by kernel_rfl, ?_⟩) hS ?_
                rotate_left 1
                · (intro w' hSw; (try dsimp only at hSw); go_simp; try (with_reducible rfl))
                try simp only [Act.put, List.setIfInBounds_toArray, List.set_cons_zero, List.set_cons_succ]
                refine wpAnyH_oneD (i := 15) rfl (by kernel_rfl) (fun K hK => ?_)
                go_simp
                obtain ⟨V7, hwV7⟩ : ∃ W, W = V6.alloc (.cells #[.slice none 0 0, .slice none 0 0] 51) := ⟨_, rfl⟩
                have hTV7 := hTV6.alloc
                rw [← hwV7] at hTV7
                rw [← hwV7]
                clear hwV7
                refine hK.out _ _ (HSP.out _ hTV7.below) (fun hS => ?_)
                clear hK
                try simp only [Act.put, List.setIfInBounds_toArray, List.set_cons_zero, List.set_cons_succ]
                refine wpAnyH_oneD (i := 16) rfl (by kernel_rfl) (fun K hK => ?_)
                obtain ⟨_, _, _, _, eA, eB, hc, hE⟩ := hTV7.close
                clear eA eB
                obtain ⟨⟨x0, x1⟩, ⟨y0, y1⟩, hlt⟩ := blk2 hc
                go_simp
                refine hK.out _ _ (HSP.out _ (hE _ rfl).choose_spec.choose_spec.choose_spec.choose_spec.choose_spec.2.2.2.2.2.2) (fun hS => ?_)
                clear hK
                try simp only [Act.put, List.setIfInBounds_toArray, List.set_cons_zero, List.set_cons_succ]
                refine wpAnyH_done (by kernel_rfl) ?_ _
                go_wp2_with fail
                go_meet
                exact hE _ rfl
               next =>
                go_simp
                obtain ⟨V9, hwV9⟩ : ∃ W, W = V5.alloc (.cells #[.slice none 0 0, .slice none 0 0] 51) := ⟨_, rfl⟩
                have hTV9 := hTV5.alloc
                rw [← hwV9] at hTV9
                rw [← hwV9]
                clear hwV9
                refine hK.out _ _ (HSP.out _ hTV9.below) (fun hS => ?_)
                clear hK
                try simp only [Act.put, List.setIfInBounds_toArray, List.set_cons_zero, List.set_cons_succ]
                refine wpAnyH_oneD (i := 13) rfl (by kernel_rfl) (fun K hK => ?_)
                refine hTV9.extB rfl (.tmp 89) (.tmp 91) rfl (by rfl) HS4 (by rfl) HQ2.out ?_
                intro vV10 V10 hTV10
                refine hK.out _ _ (HSP.out _ hTV10.below) (fun hS => ?_)
                clear hK
                try simp only [Act.put, List.setIfInBounds_toArray, List.set_cons_zero, List.set_cons_succ]
                obtain ⟨AA, ca, eA, _⟩ := own_sl hTV10.ownA
                obtain ⟨BB, cb, eB, _⟩ := own_sl hTV10.ownB
                rw [Q1.out] at eA
                rw [Q2.out] at eB
                subst eA eB
                refine wpAnyH_takeD (i := 14) (v := ?_) rfl (by kernel_rfl) (by kernel_rfl) (by kernel_rfl) (fun _ _ _ h => h) (Or.inl ⟨by kernel_rfl, ?_⟩) hS ?_
                rotate_left 1
                · (intro w' hSw; (try dsimp only at hSw); go_simp; try (with_reducible rfl))
                try simp only [Act.put, List.setIfInBounds_toArray, List.set_cons_zero, List.set_cons_succ]
                refine wpAnyH_oneD (i := 16) rfl (by kernel_rfl) (fun K hK => ?_)
                obtain ⟨_, _, _, _, eA, eB, hc, hE⟩ := hTV10.close
                clear eA eB
                obtain ⟨⟨x0, x1⟩, ⟨y0, y1⟩, hlt⟩ := blk2 hc
                go_simp
                refine hK.out _ _ (HSP.out _ (hE _ rfl).choose_spec.choose_spec.choose_spec.choose_spec.choose_spec.2.2.2.2.2.2) (fun hS => ?_)
                clear hK
                try simp only [Act.put, List.setIfInBounds_toArray, List.set_cons_zero, List.set_cons_succ]
                refine wpAnyH_done (by kernel_rfl) ?_ _
                go_wp2_with fail
                go_meet
                exact hE _ rfl
              next =>
               go_simp
               obtain ⟨V12, hwV12⟩ : ∃ W, W = V4.alloc (.cells #[.slice none 0 0, .slice none 0 0] 51) := ⟨_, rfl⟩
               have hTV12 := hTV4.alloc
               rw [← hwV12] at hTV12
               rw [← hwV12]
               clear hwV12
               refine hK.out _ _ (HSP.out _ hTV12.below) (fun hS => ?_)
               clear hK
               try simp only [Act.put, List.setIfInBounds_toArray, List.set_cons_zero, List.set_cons_succ]
               refine wpAnyH_oneD (i := 10) rfl (by kernel_rfl) (fun K hK => ?_)
               refine hTV12.extB rfl (.tmp 86) (.tmp 88) rfl (by rfl) HS4 (by rfl) HQ3.out ?_
               intro vV13 V13 hTV13
               refine hK.out _ _ (HSP.out _ hTV13.below) (fun hS => ?_)
               clear hK
               try simp only [Act.put, List.setIfInBounds_toArray, List.set_cons_zero, List.set_cons_succ]
               refine wpAnyH_oneD (i := 13) rfl (by kernel_rfl) (fun K hK => ?_)
               refine hTV13.extB rfl (.tmp 89) (.tmp 91) rfl (by rfl) HS4 (by rfl) HQ2.out ?_
               intro vV14 V14 hTV14
               refine hK.out _ _ (HSP.out _ hTV14.below) (fun hS => ?_)
               clear hK
               try simp only [Act.put, List.setIfInBounds_toArray, List.set_cons_zero, List.set_cons_succ]
               obtain ⟨AA, ca, eA, _⟩ := own_sl hTV14.ownA
               obtain ⟨BB, cb, eB, _⟩ := own_sl hTV14.ownB
               rw [Q1.out] at eA
               rw [Q2.out] at eB
               subst eA eB
               refine wpAnyH_takeD (i := 14) (v := ?_) rfl (by kernel_rfl) (by kernel_rfl) (by kernel_rfl) (fun _ _ _ h => h) (Or.inl ⟨by kernel_rfl, ?_⟩) hS ?_
               rotate_left 1
               · (intro w' hSw; (try dsimp only at hSw); go_simp; try (with_reducible rfl))
               try simp only [Act.put, List.setIfInBounds_toArray, List.set_cons_zero, List.set_cons_succ]
               refine wpAnyH_oneD (i := 16) rfl (by kernel_rfl) (fun K hK => ?_)
               obtain ⟨_, _, _, _, eA, eB, hc, hE⟩ := hTV14.close
               clear eA eB
               obtain ⟨⟨x0, x1⟩, ⟨y0, y1⟩, hlt⟩ := blk2 hc
               go_simp
               refine hK.out _ _ (HSP.out _ (hE _ rfl).choose_spec.choose_spec.choose_spec.choose_spec.choose_spec.2.2.2.2.2.2) (fun hS => ?_)
               clear hK
               try simp only [Act.put, List.setIfInBounds_toArray, List.set_cons_zero, List.set_cons_succ]
               refine wpAnyH_done (by kernel_rfl) ?_ _
               go_wp2_with fail
               go_meet
               exact hE _ rfl
             next =>
              go_simp
              obtain ⟨V16, hwV16⟩ : ∃ W, W = V3.alloc (.cells #[.slice none 0 0, .slice none 0 0] 51) := ⟨_, rfl⟩
              have hTV16 := hTV3.alloc
              rw [← hwV16] at hTV16
              rw [← hwV16]
              clear hwV16
              refine hK.out _ _ (HSP.out _ hTV16.below) (fun hS => ?_)
              clear hK
              try simp only [Act.put, List.setIfInBounds_toArray, List.set_cons_zero, List.set_cons_succ]
              refine wpAnyH_oneD (i := 7) rfl (by kernel_rfl) (fun K hK => ?_)
              refine hTV16.empB rfl rfl ?_
              intro vV17 V17 hTV17
              refine hK.out _ _ (HSP.out _ hTV17.below) (fun hS => ?_)
              clear hK
              try simp only [Act.put, List.setIfInBounds_toArray, List.set_cons_zero, List.set_cons_succ]
              refine wpAnyH_oneD (i := 10) rfl (by kernel_rfl) (fun K hK => ?_)
              refine hTV17.extB rfl (.tmp 86) (.tmp 88) rfl (by rfl) HS4 (by rfl) HQ3.out ?_
              intro vV18 V18 hTV18
              refine hK.out _ _ (HSP.out _ hTV18.below) (fun hS => ?_)
              clear hK
              try simp only [Act.put, List.setIfInBounds_toArray, List.set_cons_zero, List.set_cons_succ]
              refine wpAnyH_oneD (i := 13) rfl (by kernel_rfl) (fun K hK => ?_)
              refine hTV18.extB rfl (.tmp 89) (.tmp 91) rfl (by rfl) HS4 (by rfl) HQ2.out ?_
              intro vV19 V19 hTV19
              refine hK.out _ _ (HSP.out _ hTV19.below) (fun hS => ?_)
              clear hK
              try simp only [Act.put, List.setIfInBounds_toArray, List.set_cons_zero, List.set_cons_succ]
              obtain ⟨AA, ca, eA, _⟩ := own_sl hTV19.ownA
              obtain ⟨BB, cb, eB, _⟩ := own_sl hTV19.ownB
              rw [Q1.out] at eA
              rw [Q2.out] at eB
              subst eA eB
              refine wpAnyH_takeD (i := 14) (v := ?_) rfl (by kernel_rfl) (by kernel_rfl) (by kernel_rfl) (fun _ _ _ h => h) (Or.inl ⟨by kernel_rfl, ?_⟩) hS ?_
              rotate_left 1
              · (intro w' hSw; (try dsimp only at hSw); go_simp; try (with_reducible rfl))
              try simp only [Act.put, List.setIfInBounds_toArray, List.set_cons_zero, List.set_cons_succ]
              refine wpAnyH_oneD (i := 16) rfl (by kernel_rfl) (fun K hK => ?_)
              obtain ⟨_, _, _, _, eA, eB, hc, hE⟩ := hTV19.close
              clear eA eB
              obtain ⟨⟨x0, x1⟩, ⟨y0, y1⟩, hlt⟩ := blk2 hc
              go_simp
              refine hK.out _ _ (HSP.out _ (hE _ rfl).choose_spec.choose_spec.choose_spec.choose_spec.choose_spec.2.2.2.2.2.2) (fun hS => ?_)
              clear hK
              try simp only [Act.put, List.setIfInBounds_toArray, List.set_cons_zero, List.set_cons_succ]
              refine wpAnyH_done (by kernel_rfl) ?_ _
              go_wp2_with fail
              go_meet
              exact hE _ rfl
            next =>
             refine hTV2.empB rfl rfl ?_
             intro vV21 V21 hTV21
             refine hK.out _ _ (HSP.out _ hTV21.below) (fun hS => ?_)
             clear hK
             try simp only [Act.put, List.setIfInBounds_toArray, List.set_cons_zero, List.set_cons_succ]
             refine wpAnyH_ready (rs := [6, 15]) (by kernel_rfl) (by simp) ?_
             refine (allReadyH_consD (i := 6) rfl (fun K hK => ?_) (allReadyH_consD (i := 15) rfl (fun K hK => ?_) AllReadyH.nil))
             next =>
              refine hTV21.extA rfl (.tmp 82) (.tmp 84) rfl (by rfl) HS4 (by rfl) HQ1.out ?_
              intro vV22 V22 hTV22
              refine hK.out _ _ (HSP.out _ hTV22.below) (fun hS => ?_)
              clear hK
              try simp only [Act.put, List.setIfInBounds_toArray, List.set_cons_zero, List.set_cons_succ]
              refine wpAnyH_ready (rs := [10, 15]) (by kernel_rfl) (by simp) ?_
              refine (allReadyH_consD (i := 10) rfl (fun K hK => ?_) (allReadyH_consD (i := 15) rfl (fun K hK => ?_) AllReadyH.nil))
              next =>
               refine hTV22.extB rfl (.tmp 86) (.tmp 88) rfl (by rfl) HS4 (by rfl) HQ3.out ?_
               intro vV23 V23 hTV23
               refine hK.out _ _ (HSP.out _ hTV23.below) (fun hS => ?_)
               clear hK
               try simp only [Act.put, List.setIfInBounds_toArray, List.set_cons_zero, List.set_cons_succ]
               refine wpAnyH_ready (rs := [13, 15]) (by kernel_rfl) (by simp) ?_
               refine (allReadyH_consD (i := 13) rfl (fun K hK => ?_) (allReadyH_consD (i := 15) rfl (fun K hK => ?_) AllReadyH.nil))
               next =>
                refine hTV23.extB rfl (.tmp 89) (.tmp 91) rfl (by rfl) HS4 (by rfl) HQ2.out ?_
                intro vV24 V24 hTV24
                refine hK.out _ _ (HSP.out _ hTV24.below) (fun hS => ?_)
                clear hK
                try simp only [Act.put, List.setIfInBounds_toArray, List.set_cons_zero, List.set_cons_succ]
                obtain ⟨AA, ca, eA, _⟩ := own_sl hTV24.ownA
                obtain ⟨BB, cb, eB, _⟩ := own_sl hTV24.ownB
                rw [Q1.out] at eA
                rw [Q2.out] at eB
                subst eA eB
                refine wpAnyH_takeD (i := 14) (v := ?_) rfl (by kernel_rfl) (by kernel_rfl) (by kernel_rfl) (fun _ _ _ h => h) (Or.inl ⟨by kernel_rfl, ?_⟩) hS ?_
                rotate_left 1
                · (intro w' hSw; (try dsimp only at hSw); go_simp; try (with_reducible rfl))
                try simp only [Act.put, List.setIfInBounds_toArray, List.set_cons_zero, List.set_cons_succ]
                refine wpAnyH_oneD (i := 15) rfl (by kernel_rfl) (fun K hK => ?_)
                go_simp
                obtain ⟨V25, hwV25⟩ : ∃ W, W = V24.alloc (.cells #[.slice none 0 0, .slice none 0 0] 51) := ⟨_, rfl⟩
                have hTV25 := hTV24.alloc
                rw [← hwV25] at hTV25
                rw [← hwV25]
                clear hwV25
                refine hK.out _ _ (HSP.out _ hTV25.below) (fun hS => ?_)
                clear hK
                try simp only [Act.put, List.setIfInBounds_toArray, List.set_cons_zero, List.set_cons_succ]
                refine wpAnyH_oneD (i := 16) rfl (by kernel_rfl) (fun K hK => ?_)
                obtain ⟨_, _, _, _, eA, eB, hc, hE⟩ := hTV25.close
                clear eA eB
                obtain ⟨⟨x0, x1⟩, ⟨y0, y1⟩, hlt⟩ := blk2 hc
                go_simp
                refine hK.out _ _ (HSP.out _ (hE _ rfl).choose_spec.choose_spec.choose_spec.choose_spec.choose_spec.2.2.2.2.2.2) (fun hS => ?_)
                clear hK
                try simp only [Act.put, List.setIfInBounds_toArray, List.set_cons_zero, List.set_cons_succ]
                refine wpAnyH_done (by kernel_rfl) ?_ _
                go_wp2_with fail
                go_meet
                exact hE _ rfl
               next =>
                go_simp
                obtain ⟨V27, hwV27⟩ : ∃ W, W = V23.alloc (.cells #[.slice none 0 0, .slice none 0 0] 51) := ⟨_, rfl⟩
                have hTV27 := hTV23.alloc
                rw [← hwV27] at hTV27
                rw [← hwV27]
                clear hwV27
                refine hK.out _ _ (HSP.out _ hTV27.below) (fun hS => ?_)
                clear hK
                try simp only [Act.put, List.setIfInBounds_toArray, List.set_cons_zero, List.set_cons_succ]
                refine wpAnyH_oneD (i := 13) rfl (by kernel_rfl) (fun K hK => ?_)
                refine hTV27.extB rfl (.tmp 89) (.tmp 91) rfl (by rfl) HS4 (by rfl) HQ2.out ?_
                intro vV28 V28 hTV28
                refine hK.out _ _ (HSP.out _ hTV28.below) (fun hS => ?_)
                clear hK
                try simp only [Act.put, List.setIfInBounds_toArray, List.set_cons_zero, List.set_cons_succ]
                obtain ⟨AA, ca, eA, _⟩ := own_sl hTV28.ownA
                obtain ⟨BB, cb, eB, _⟩ := own_sl hTV28.ownB
                rw [Q1.out] at eA
                rw [Q2.out] at eB
                subst eA eB
                refine wpAnyH_takeD (i := 14) (v := ?_) rfl (by kernel_rfl) (by kernel_rfl) (by kernel_rfl) (fun _ _ _ h => h) (Or.inl ⟨by kernel_rfl, ?_⟩) hS ?_
                rotate_left 1
                · (intro w' hSw; (try dsimp only at hSw); go_simp; try (with_reducible rfl))
                try simp only [Act.put, List.setIfInBounds_toArray, List.set_cons_zero, List.set_cons_succ]
                refine wpAnyH_oneD (i := 16) rfl (by kernel_rfl) (fun K hK => ?_)
                obtain ⟨_, _, _, _, eA, eB, hc, hE⟩ := hTV28.close
                clear eA eB
                obtain ⟨⟨x0, x1⟩, ⟨y0, y1⟩, hlt⟩ := blk2 hc
                go_simp
                refine hK.out _ _ (HSP.out _ (hE _ rfl).choose_spec.choose_spec.choose_spec.choose_spec.choose_spec.2.2.2.2.2.2) (fun hS => ?_)
                clear hK
                try simp only [Act.put, List.setIfInBounds_toArray, List.set_cons_zero, List.set_cons_succ]
                refine wpAnyH_done (by kernel_rfl) ?_ _
                go_wp2_with fail
                go_meet
                exact hE _ rfl
              next =>
               go_simp
               obtain ⟨V30, hwV30⟩ : ∃ W, W = V22.alloc (.cells #[.slice none 0 0, .slice none 0 0] 51) := ⟨_, rfl⟩
               have hTV30 := hTV22.alloc
               rw [← hwV30] at hTV30
               rw [← hwV30]
               clear hwV30
               refine hK.out _ _ (HSP.out _ hTV30.below) (fun hS => ?_)
               clear hK
               try simp only [Act.put, List.setIfInBounds_toArray, List.set_cons_zero, List.set_cons_succ]
               refine wpAnyH_oneD (i := 10) rfl (by kernel_rfl) (fun K hK => ?_)
               refine hTV30.extB rfl (.tmp 86) (.tmp 88) rfl (by rfl) HS4 (by rfl) HQ3.out ?_
               intro vV31 V31 hTV31
               refine hK.out _ _ (HSP.out _ hTV31.below) (fun hS => ?_)
               clear hK
               try simp only [Act.put, List.setIfInBounds_toArray, List.set_cons_zero, List.set_cons_succ]
               refine wpAnyH_oneD (i := 13) rfl (by kernel_rfl) (fun K hK => ?_)
               refine hTV31.extB rfl (.tmp 89) (.tmp 91) rfl (by rfl) HS4 (by rfl) HQ2.out ?_
               intro vV32 V32 hTV32
               refine hK.out _ _ (HSP.out _ hTV32.below) (fun hS => ?_)
               clear hK
               try simp only [Act.put, List.setIfInBounds_toArray, List.set_cons_zero, List.set_cons_succ]
               obtain ⟨AA, ca, eA, _⟩ := own_sl hTV32.ownA
               obtain ⟨BB, cb, eB, _⟩ := own_sl hTV32.ownB
               rw [Q1.out] at eA
               rw [Q2.out] at eB
               subst eA eB
               refine wpAnyH_takeD (i := 14) (v := ?_) rfl (by kernel_rfl) (by kernel_rfl) (by kernel_rfl) (fun _ _ _ h => h) (Or.inl ⟨by kernel_rfl, ?_⟩) hS ?_
               rotate_left 1
               · (intro w' hSw; (try dsimp only at hSw); go_simp; try (with_reducible rfl))
               try simp only [Act.put, List.setIfInBounds_toArray, List.set_cons_zero, List.set_cons_succ]
               refine wpAnyH_oneD (i := 16) rfl (by kernel_rfl) (fun K hK => ?_)
               obtain ⟨_, _, _, _, eA, eB, hc, hE⟩ := hTV32.close
               clear eA eB
               obtain ⟨⟨x0, x1⟩, ⟨y0, y1⟩, hlt⟩ := blk2 hc
               go_simp
               refine hK.out _ _ (HSP.out _ (hE _ rfl).choose_spec.choose_spec.choose_spec.choose_spec.choose_spec.2.2.2.2.2.2) (fun hS => ?_)
               clear hK
               try simp only [Act.put, List.setIfInBounds_toArray, List.set_cons_zero, List.set_cons_succ]
               refine wpAnyH_done (by kernel_rfl) ?_ _
               go_wp2_with fail
               go_meet
               exact hE _ rfl
             next =>
              go_simp
              obtain ⟨V34, hwV34⟩ : ∃ W, W = V21.alloc (.cells #[.slice none 0 0, .slice none 0 0] 51) := ⟨_, rfl⟩
              have hTV34 := hTV21.alloc
              rw [← hwV34] at hTV34
              rw [← hwV34]
              clear hwV34
              refine hK.out _ _ (HSP.out _ hTV34.below) (fun hS => ?_)
              clear hK
              try simp only [Act.put, List.setIfInBounds_toArray, List.set_cons_zero, List.set_cons_succ]
              refine wpAnyH_oneD (i := 6) rfl (by kernel_rfl) (fun K hK => ?_)
              refine hTV34.extA rfl (.tmp 82) (.tmp 84) rfl (by rfl) HS4 (by rfl) HQ1.out ?_
              intro vV35 V35 hTV35
              refine hK.out _ _ (HSP.out _ hTV35.below) (fun hS => ?_)
              clear hK
              try simp only [Act.put, List.setIfInBounds_toArray, List.set_cons_zero, List.set_cons_succ]
              refine wpAnyH_oneD (i := 10) rfl (by kernel_rfl) (fun K hK => ?_)
              refine hTV35.extB rfl (.tmp 86) (.tmp 88) rfl (by rfl) HS4 (by rfl) HQ3.out ?_
              intro vV36 V36 hTV36
              refine hK.out _ _ (HSP.out _ hTV36.below) (fun hS => ?_)
              clear hK
              try simp only [Act.put, List.setIfInBounds_toArray, List.set_cons_zero, List.set_cons_succ]
              refine wpAnyH_oneD (i := 13) rfl (by kernel_rfl) (fun K hK => ?_)
              refine hTV36.extB rfl (.tmp 89) (.tmp 91) rfl (by rfl) HS4 (by rfl) HQ2.out ?_
              intro vV37 V37 hTV37
              refine hK.out _ _ (HSP.out _ hTV37.below) (fun hS => ?_)
              clear hK
              try simp only [Act.put, List.setIfInBounds_toArray, List.set_cons_zero, List.set_cons_succ]
              obtain ⟨AA, ca, eA, _⟩ := own_sl hTV37.ownA
              obtain ⟨BB, cb, eB, _⟩ := own_sl hTV37.ownB
              rw [Q1.out] at eA
              rw [Q2.out] at eB
              subst eA eB
              refine wpAnyH_takeD (i := 14) (v := ?_) rfl (by kernel_rfl) (by kernel_rfl) (by kernel_rfl) (fun _ _ _ h => h) (Or.inl ⟨by kernel_rfl, ?_⟩) hS ?_
              rotate_left 1
              · (intro w' hSw; (try dsimp only at hSw); go_simp; try (with_reducible rfl))
              try simp only [Act.put, List.setIfInBounds_toArray, List.set_cons_zero, List.set_cons_succ]
              refine wpAnyH_oneD (i := 16) rfl (by kernel_rfl) (fun K hK => ?_)
              obtain ⟨_, _, _, _, eA, eB, hc, hE⟩ := hTV37.close
              clear eA eB
              obtain ⟨⟨x0, x1⟩, ⟨y0, y1⟩, hlt⟩ := blk2 hc
              go_simp
              refine hK.out _ _ (HSP.out _ (hE _ rfl).choose_spec.choose_spec.choose_spec.choose_spec.choose_spec.2.2.2.2.2.2) (fun hS => ?_)
              clear hK
              try simp only [Act.put, List.setIfInBounds_toArray, List.set_cons_zero, List.set_cons_succ]
              refine wpAnyH_done (by kernel_rfl) ?_ _
              go_wp2_with fail
              go_meet
              exact hE _ rfl
            next =>
             go_simp
             obtain ⟨V39, hwV39⟩ : ∃ W, W = V2.alloc (.cells #[.slice none 0 0, .slice none 0 0] 51) := ⟨_, rfl⟩
             have hTV39 := hTV2.alloc
             rw [← hwV39] at hTV39
             rw [← hwV39]
             clear hwV39
             refine hK.out _ _ (HSP.out _ hTV39.below) (fun hS => ?_)
             clear hK
             try simp only [Act.put, List.setIfInBounds_toArray, List.set_cons_zero, List.set_cons_succ]
             refine wpAnyH_ready (rs := [6, 7]) (by kernel_rfl) (by simp) ?_
             refine (allReadyH_consD (i := 6) rfl (fun K hK => ?_) (allReadyH_consD (i := 7) rfl (fun K hK => ?_) AllReadyH.nil))
             next =>
              refine hTV39.extA rfl (.tmp 82) (.tmp 84) rfl (by rfl) HS4 (by rfl) HQ1.out ?_
              intro vV40 V40 hTV40
              refine hK.out _ _ (HSP.out _ hTV40.below) (fun hS => ?_)
              clear hK
              try simp only [Act.put, List.setIfInBounds_toArray, List.set_cons_zero, List.set_cons_succ]
              refine wpAnyH_oneD (i := 7) rfl (by kernel_rfl) (fun K hK => ?_)
              refine hTV40.empB rfl rfl ?_
              intro vV41 V41 hTV41
              refine hK.out _ _ (HSP.out _ hTV41.below) (fun hS => ?_)
              clear hK
              try simp only [Act.put, List.setIfInBounds_toArray, List.set_cons_zero, List.set_cons_succ]
              refine wpAnyH_oneD (i := 10) rfl (by kernel_rfl) (fun K hK => ?_)
              refine hTV41.extB rfl (.tmp 86) (.tmp 88) rfl (by rfl) HS4 (by rfl) HQ3.out ?_
              intro vV42 V42 hTV42
              refine hK.out _ _ (HSP.out _ hTV42.below) (fun hS => ?_)
              clear hK
              try simp only [Act.put, List.setIfInBounds_toArray, List.set_cons_zero, List.set_cons_succ]
              refine wpAnyH_oneD (i := 13) rfl (by kernel_rfl) (fun K hK => ?_)
              refine hTV42.extB rfl (.tmp 89) (.tmp 91) rfl (by rfl) HS4 (by rfl) HQ2.out ?_
              intro vV43 V43 hTV43
              refine hK.out _ _ (HSP.out _ hTV43.below) (fun hS => ?_)
              clear hK
              try simp only [Act.put, List.setIfInBounds_toArray, List.set_cons_zero, List.set_cons_succ]
              obtain ⟨AA, ca, eA, _⟩ := own_sl hTV43.ownA
              obtain ⟨BB, cb, eB, _⟩ := own_sl hTV43.ownB
              rw [Q1.out] at eA
              rw [Q2.out] at eB
              subst eA eB
              refine wpAnyH_takeD (i := 14) (v := ?_) rfl (by kernel_rfl) (by kernel_rfl) (by kernel_rfl) (fun _ _ _ h => h) (Or.inl ⟨by kernel_rfl, ?_⟩) hS ?_
              rotate_left 1
              · (intro w' hSw; (try dsimp only at hSw); go_simp; try (with_reducible rfl))
              try simp only [Act.put, List.setIfInBounds_toArray, List.set_cons_zero, List.set_cons_succ]
              refine wpAnyH_oneD (i := 16) rfl (by kernel_rfl) (fun K hK => ?_)
              obtain ⟨_, _, _, _, eA, eB, hc, hE⟩ := hTV43.close
              clear eA eB
              obtain ⟨⟨x0, x1⟩, ⟨y0, y1⟩, hlt⟩ := blk2 hc
              go_simp
              refine hK.out _ _ (HSP.out _ (hE _ rfl).choose_spec.choose_spec.choose_spec.choose_spec.choose_spec.2.2.2.2.2.2) (fun hS => ?_)
              clear hK
              try simp only [Act.put, List.setIfInBounds_toArray, List.set_cons_zero, List.set_cons_succ]
              refine wpAnyH_done (by kernel_rfl) ?_ _
              go_wp2_with fail
              go_meet
              exact hE _ rfl
             next =>
              refine hTV39.empB rfl rfl ?_
              intro vV45 V45 hTV45
              refine hK.out _ _ (HSP.out _ hTV45.below) (fun hS => ?_)
              clear hK
              try simp only [Act.put, List.setIfInBounds_toArray, List.set_cons_zero, List.set_cons_succ]
              refine wpAnyH_oneD (i := 6) rfl (by kernel_rfl) (fun K hK => ?_)
              refine hTV45.extA rfl (.tmp 82) (.tmp 84) rfl (by rfl) HS4 (by rfl) HQ1.out ?_
              intro vV46 V46 hTV46
              refine hK.out _ _ (HSP.out _ hTV46.below) (fun hS => ?_)
              clear hK
              try simp only [Act.put, List.setIfInBounds_toArray, List.set_cons_zero, List.set_cons_succ]
              refine wpAnyH_oneD (i := 10) rfl (by kernel_rfl) (fun K hK => ?_)
              refine hTV46.extB rfl (.tmp 86) (.tmp 88) rfl (by rfl) HS4 (by rfl) HQ3.out ?_
              intro vV47 V47 hTV47
              refine hK.out _ _ (HSP.out _ hTV47.below) (fun hS => ?_)
              clear hK
              try simp only [Act.put, List.setIfInBounds_toArray, List.set_cons_zero, List.set_cons_succ]
              refine wpAnyH_oneD (i := 13) rfl (by kernel_rfl) (fun K hK => ?_)
              refine hTV47.extB rfl (.tmp 89) (.tmp 91) rfl (by rfl) HS4 (by rfl) HQ2.out ?_
              intro vV48 V48 hTV48
              refine hK.out _ _ (HSP.out _ hTV48.below) (fun hS => ?_)
              clear hK
              try simp only [Act.put, List.setIfInBounds_toArray, List.set_cons_zero, List.set_cons_succ]
              obtain ⟨AA, ca, eA, _⟩ := own_sl hTV48.ownA
              obtain ⟨BB, cb, eB, _⟩ := own_sl hTV48.ownB
              rw [Q1.out] at eA
              rw [Q2.out] at eB
              subst eA eB
              refine wpAnyH_takeD (i := 14) (v := ?_) rfl (by kernel_rfl) (by kernel_rfl) (by kernel_rfl) (fun _ _ _ h => h) (Or.inl ⟨by kernel_rfl, ?_⟩) hS ?_
              rotate_left 1
              · (intro w' hSw; (try dsimp only at hSw); go_simp; try (with_reducible rfl))
              try simp only [Act.put, List.setIfInBounds_toArray, List.set_cons_zero, List.set_cons_succ]
              refine wpAnyH_oneD (i := 16) rfl (by kernel_rfl) (fun K hK => ?_)
              obtain ⟨_, _, _, _, eA, eB, hc, hE⟩ := hTV48.close
              clear eA eB
              obtain ⟨⟨x0, x1⟩, ⟨y0, y1⟩, hlt⟩ := blk2 hc
              go_simp
              refine hK.out _ _ (HSP.out _ (hE _ rfl).choose_spec.choose_spec.choose_spec.choose_spec.choose_spec.2.2.2.2.2.2) (fun hS => ?_)
              clear hK
              try simp only [Act.put, List.setIfInBounds_toArray, List.set_cons_zero, List.set_cons_succ]
              refine wpAnyH_done (by kernel_rfl) ?_ _
              go_wp2_with fail
              go_meet
              exact hE _ rfl
           next =>
            refine hTV1.empB rfl rfl ?_
            intro vV50 V50 hTV50
            refine hK.out _ _ (HSP.out _ hTV50.below) (fun hS => ?_)
            clear hK
            try simp only [Act.put, List.setIfInBounds_toArray, List.set_cons_zero, List.set_cons_succ]
            refine wpAnyH_ready (rs := [3, 15]) (by kernel_rfl) (by simp) ?_
            refine (allReadyH_consD (i := 3) rfl (fun K hK => ?_) (allReadyH_consD (i := 15) rfl (fun K hK => ?_) AllReadyH.nil))
            next =>
             refine hTV50.extA rfl (.tmp 79) (.tmp 81) rfl (by rfl) HS3 (by rfl) HQ0.out ?_
             intro vV51 V51 hTV51
             refine hK.out _ _ (HSP.out _ hTV51.below) (fun hS => ?_)
             clear hK
             try simp only [Act.put, List.setIfInBounds_toArray, List.set_cons_zero, List.set_cons_succ]
             refine wpAnyH_ready (rs := [6, 15]) (by kernel_rfl) (by simp) ?_
             refine (allReadyH_consD (i := 6) rfl (fun K hK => ?_) (allReadyH_consD (i := 15) rfl (fun K hK => ?_) AllReadyH.nil))
             next =>
              refine hTV51.extA rfl (.tmp 82) (.tmp 84) rfl (by rfl) HS4 (by rfl) HQ1.out ?_
              intro vV52 V52 hTV52
              refine hK.out _ _ (HSP.out _ hTV52.below) (fun hS => ?_)
              clear hK
              try simp only [Act.put, List.setIfInBounds_toArray, List.set_cons_zero, List.set_cons_succ]
              refine wpAnyH_ready (rs := [10, 15]) (by kernel_rfl) (by simp) ?_
              refine (allReadyH_consD (i := 10) rfl (fun K hK => ?_) (allReadyH_consD (i := 15) rfl (fun K hK => ?_) AllReadyH.nil))
              next =>
               refine hTV52.extB rfl (.tmp 86) (.tmp 88) rfl (by rfl) HS4 (by rfl) HQ3.out ?_
               intro vV53 V53 hTV53
               refine hK.out _ _ (HSP.out _ hTV53.below) (fun hS => ?_)
               clear hK
               try simp only [Act.put, List.setIfInBounds_toArray, List.set_cons_zero, List.set_cons_succ]
               refine wpAnyH_ready (rs := [13, 15]) (by kernel_rfl) (by simp) ?_
               refine (allReadyH_consD (i := 13) rfl (fun K hK => ?_) (allReadyH_consD (i := 15) rfl (fun K hK => ?_) AllReadyH.nil))
               next =>
                refine hTV53.extB rfl (.tmp 89) (.tmp 91) rfl (by rfl) HS4 (by rfl) HQ2.out ?_
                intro vV54 V54 hTV54
                refine hK.out _ _ (HSP.out _ hTV54.below) (fun hS => ?_)
                clear hK
                try simp only [Act.put, List.setIfInBounds_toArray, List.set_cons_zero, List.set_cons_succ]
                obtain ⟨AA, ca, eA, _⟩ := own_sl hTV54.ownA
                obtain ⟨BB, cb, eB, _⟩ := own_sl hTV54.ownB
                rw [Q1.out] at eA
                rw [Q2.out] at eB
                subst eA eB
                refine wpAnyH_takeD (i := 14) (v := ?_) rfl (by kernel_rfl) (by kernel_rfl) (by kernel_rfl) (fun _ _ _ h => h) (Or.inl ⟨by kernel_rfl, ?_⟩) hS ?_
                rotate_left 1
                · (intro w' hSw; (try dsimp only at hSw); go_simp; try (with_reducible rfl))
                try simp only [Act.put, List.setIfInBounds_toArray, List.set_cons_zero, List.set_cons_succ]
                refine wpAnyH_oneD (i := 15) rfl (by kernel_rfl) (fun K hK => ?_)
                go_simp
                obtain ⟨V55, hwV55⟩ : ∃ W, W = V54.alloc (.cells #[.slice none 0 0, .slice none 0 0] 51) := ⟨_, rfl⟩
                have hTV55 := hTV54.alloc
                rw [← hwV55] at hTV55
                rw [← hwV55]
                clear hwV55
                refine hK.out _ _ (HSP.out _ hTV55.below) (fun hS => ?_)
                clear hK
                try simp only [Act.put, List.setIfInBounds_toArray, List.set_cons_zero, List.set_cons_succ]
                refine wpAnyH_oneD (i := 16) rfl (by kernel_rfl) (fun K hK => ?_)
                obtain ⟨_, _, _, _, eA, eB, hc, hE⟩ := hTV55.close
                clear eA eB
                obtain ⟨⟨x0, x1⟩, ⟨y0, y1⟩, hlt⟩ := blk2 hc
                go_simp
                refine hK.out _ _ (HSP.out _ (hE _ rfl).choose_spec.choose_spec.choose_spec.choose_spec.choose_spec.2.2.2.2.2.2) (fun hS => ?_)
                clear hK
                try simp only [Act.put, List.setIfInBounds_toArray, List.set_cons_zero, List.set_cons_succ]
                refine wpAnyH_done (by kernel_rfl) ?_ _
                go_wp2_with fail
                go_meet
                exact hE _ rfl
               next =>
                go_simp
                obtain ⟨V57, hwV57⟩ : ∃ W, W = V53.alloc (.cells #[.slice none 0 0, .slice none 0 0] 51) := ⟨_, rfl⟩
                have hTV57 := hTV53.alloc
                rw [← hwV57] at hTV57
                rw [← hwV57]
                clear hwV57
                refine hK.out _ _ (HSP.out _ hTV57.below) (fun hS => ?_)
                clear hK
                try simp only [Act.put, List.setIfInBounds_toArray, List.set_cons_zero, List.set_cons_succ]
                refine wpAnyH_oneD (i := 13) rfl (by kernel_rfl) (fun K hK => ?_)
                refine hTV57.extB rfl (.tmp 89) (.tmp 91) rfl (by rfl) HS4 (by rfl) HQ2.out ?_
                intro vV58 V58 hTV58
                refine hK.out _ _ (HSP.out _ hTV58.below) (fun hS => ?_)
                clear hK
                try simp only [Act.put, List.setIfInBounds_toArray, List.set_cons_zero, List.set_cons_succ]
                obtain ⟨AA, ca, eA, _⟩ := own_sl hTV58.ownA
                obtain ⟨BB, cb, eB, _⟩ := own_sl hTV58.ownB
                rw [Q1.out] at eA
                rw [Q2.out] at eB
                subst eA eB
                refine wpAnyH_takeD (i := 14) (v := ?_) rfl (by kernel_rfl) (by kernel_rfl) (by kernel_rfl) (fun _ _ _ h => h) (Or.inl ⟨by kernel_rfl, ?_⟩) hS ?_
                rotate_left 1
                · (intro w' hSw; (try dsimp only at hSw); go_simp; try (with_reducible rfl))
                try simp only [Act.put, List.setIfInBounds_toArray, List.set_cons_zero, List.set_cons_succ]
                refine wpAnyH_oneD (i := 16) rfl (by kernel_rfl) (fun K hK => ?_)
                obtain ⟨_, _, _, _, eA, eB, hc, hE⟩ := hTV58.close
                clear eA eB
                obtain ⟨⟨x0, x1⟩, ⟨y0, y1⟩, hlt⟩ := blk2 hc
                go_simp
                refine hK.out _ _ (HSP.out _ (hE _ rfl).choose_spec.choose_spec.choose_spec.choose_spec.choose_spec.2.2.2.2.2.2) (fun hS => ?_)
                clear hK
                try simp only [Act.put, List.setIfInBounds_toArray, List.set_cons_zero, List.set_cons_succ]
                refine wpAnyH_done (by kernel_rfl) ?_ _
                go_wp2_with fail
                go_meet
                exact hE _ rfl
              next =>
               go_simp
               obtain ⟨V60, hwV60⟩ : ∃ W, W = V52.alloc (.cells #[.slice none 0 0, .slice none 0 0] 51) := ⟨_, rfl⟩
               have hTV60 := hTV52.alloc
               rw [← hwV60] at hTV60
               rw [← hwV60]
               clear hwV60
               refine hK.out _ _ (HSP.out _ hTV60.below) (fun hS => ?_)
               clear hK
               try simp only [Act.put, List.setIfInBounds_toArray, List.set_cons_zero, List.set_cons_succ]
               refine wpAnyH_oneD (i := 10) rfl (by kernel_rfl) (fun K hK => ?_)
               refine hTV60.extB rfl (.tmp 86) (.tmp 88) rfl (by rfl) HS4 (by rfl) HQ3.out ?_
               intro vV61 V61 hTV61
               refine hK.out _ _ (HSP.out _ hTV61.below) (fun hS => ?_)
               clear hK
               try simp only [Act.put, List.setIfInBounds_toArray, List.set_cons_zero, List.set_cons_succ]
               refine wpAnyH_oneD (i := 13) rfl (by kernel_rfl) (fun K hK => ?_)
               refine hTV61.extB rfl (.tmp 89) (.tmp 91) rfl (by rfl) HS4 (by rfl) HQ2.out ?_
               intro vV62 V62 hTV62
               refine hK.out _ _ (HSP.out _ hTV62.below) (fun hS => ?_)
               clear hK
               try simp only [Act.put, List.setIfInBounds_toArray, List.set_cons_zero, List.set_cons_succ]
               obtain ⟨AA, ca, eA, _⟩ := own_sl hTV62.ownA
               obtain ⟨BB, cb, eB, _⟩ := own_sl hTV62.ownB
               rw [Q1.out] at eA
               rw [Q2.out] at eB
               subst eA eB
               refine wpAnyH_takeD (i := 14) (v := ?_) rfl (by kernel_rfl) (by kernel_rfl) (by kernel_rfl) (fun _ _ _ h => h) (Or.inl ⟨by kernel_rfl, ?_⟩) hS ?_
               rotate_left 1
               · (intro w' hSw; (try dsimp only at hSw); go_simp; try (with_reducible rfl))
               try simp only [Act.put, List.setIfInBounds_toArray, List.set_cons_zero, List.set_cons_succ]
               refine wpAnyH_oneD (i := 16) rfl (by kernel_rfl) (fun K hK => ?_)
               obtain ⟨_, _, _, _, eA, eB, hc, hE⟩ := hTV62.close
               clear eA eB
               obtain ⟨⟨x0, x1⟩, ⟨y0, y1⟩, hlt⟩ := blk2 hc
               go_simp
               refine hK.out _ _ (HSP.out _ (hE _ rfl).choose_spec.choose_spec.choose_spec.choose_spec.choose_spec.2.2.2.2.2.2) (fun hS => ?_)
               clear hK
               try simp only [Act.put, List.setIfInBounds_toArray, List.set_cons_zero, List.set_cons_succ]
               refine wpAnyH_done (by kernel_rfl) ?_ _
               go_wp2_with fail
               go_meet
               exact hE _ rfl
             next =>
              go_simp
              obtain ⟨V64, hwV64⟩ : ∃ W, W = V51.alloc (.cells #[.slice none 0 0, .slice none 0 0] 51) := ⟨_, rfl⟩
              have hTV64 := hTV51.alloc
              rw [← hwV64] at hTV64
              rw [← hwV64]
              clear hwV64
              refine hK.out _ _ (HSP.out _ hTV64.below) (fun hS => ?_)
              clear hK
              try simp only [Act.put, List.setIfInBounds_toArray, List.set_cons_zero, List.set_cons_succ]
              refine wpAnyH_oneD (i := 6) rfl (by kernel_rfl) (fun K hK => ?_)
              refine hTV64.extA rfl (.tmp 82) (.tmp 84) rfl (by rfl) HS4 (by rfl) HQ1.out ?_
              intro vV65 V65 hTV65
              refine hK.out _ _ (HSP.out _ hTV65.below) (fun hS => ?_)
              clear hK
              try simp only [Act.put, List.setIfInBounds_toArray, List.set_cons_zero, List.set_cons_succ]
              refine wpAnyH_oneD (i := 10) rfl (by kernel_rfl) (fun K hK => ?_)
              refine hTV65.extB rfl (.tmp 86) (.tmp 88) rfl (by rfl) HS4 (by rfl) HQ3.out ?_
              intro vV66 V66 hTV66
              refine hK.out _ _ (HSP.out _ hTV66.below) (fun hS => ?_)
              clear hK
              try simp only [Act.put, List.setIfInBounds_toArray, List.set_cons_zero, List.set_cons_succ]
              refine wpAnyH_oneD (i := 13) rfl (by kernel_rfl) (fun K hK => ?_)
              refine hTV66.extB rfl (.tmp 89) (.tmp 91) rfl (by rfl) HS4 (by rfl) HQ2.out ?_
              intro vV67 V67 hTV67
              refine hK.out _ _ (HSP.out _ hTV67.below) (fun hS => ?_)
              clear hK
              try simp only [Act.put, List.setIfInBounds_toArray, List.set_cons_zero, List.set_cons_succ]
              obtain ⟨AA, ca, eA, _⟩ := own_sl hTV67.ownA
              obtain ⟨BB, cb, eB, _⟩ := own_sl hTV67.ownB
              rw [Q1.out] at eA
              rw [Q2.out] at eB
              subst eA eB
              refine wpAnyH_takeD (i := 14) (v := ?_) rfl (by kernel_rfl) (by kernel_rfl) (by kernel_rfl) (fun _ _ _ h => h) (Or.inl ⟨by kernel_rfl, ?_⟩) hS ?_
              rotate_left 1
              · (intro w' hSw; (try dsimp only at hSw); go_simp; try (with_reducible rfl))
              try simp only [Act.put, List.setIfInBounds_toArray, List.set_cons_zero, List.set_cons_succ]
              refine wpAnyH_oneD (i := 16) rfl (by kernel_rfl) (fun K hK => ?_)
              obtain ⟨_, _, _, _, eA, eB, hc, hE⟩ := hTV67.close
              clear eA eB
              obtain ⟨⟨x0, x1⟩, ⟨y0, y1⟩, hlt⟩ := blk2 hc
              go_simp
              refine hK.out _ _ (HSP.out _ (hE _ rfl).choose_spec.choose_spec.choose_spec.choose_spec.choose_spec.2.2.2.2.2.2) (fun hS => ?_)
              clear hK
              try simp only [Act.put, List.setIfInBounds_toArray, List.set_cons_zero, List.set_cons_succ]
              refine wpAnyH_done (by kernel_rfl) ?_ _
              go_wp2_with fail
              go_meet
              exact hE _ rfl
            next =>
             go_simp
             obtain ⟨V69, hwV69⟩ : ∃ W, W = V50.alloc (.cells #[.slice none 0 0, .slice none 0 0] 51) := ⟨_, rfl⟩
             have hTV69 := hTV50.alloc
             rw [← hwV69] at hTV69
             rw [← hwV69]
             clear hwV69
             refine hK.out _ _ (HSP.out _ hTV69.below) (fun hS => ?_)
             clear hK
             try simp only [Act.put, List.setIfInBounds_toArray, List.set_cons_zero, List.set_cons_succ]
             refine wpAnyH_oneD (i := 3) rfl (by kernel_rfl) (fun K hK => ?_)
             refine hTV69.extA rfl (.tmp 79) (.tmp 81) rfl (by rfl) HS3 (by rfl) HQ0.out ?_
             intro vV70 V70 hTV70
             refine hK.out _ _ (HSP.out _ hTV70.below) (fun hS => ?_)
             clear hK
             try simp only [Act.put, List.setIfInBounds_toArray, List.set_cons_zero, List.set_cons_succ]
             refine wpAnyH_oneD (i := 6) rfl (by kernel_rfl) (fun K hK => ?_)
             refine hTV70.extA rfl (.tmp 82) (.tmp 84) rfl (by rfl) HS4 (by rfl) HQ1.out ?_
             intro vV71 V71 hTV71
             refine hK.out _ _ (HSP.out _ hTV71.below) (fun hS => ?_)
             clear hK
             try simp only [Act.put, List.setIfInBounds_toArray, List.set_cons_zero, List.set_cons_succ]
             refine wpAnyH_oneD (i := 10) rfl (by kernel_rfl) (fun K hK => ?_)
             refine hTV71.extB rfl (.tmp 86) (.tmp 88) rfl (by rfl) HS4 (by rfl) HQ3.out ?_
             intro vV72 V72 hTV72
             refine hK.out _ _ (HSP.out _ hTV72.below) (fun hS => ?_)
             clear hK
             try simp only [Act.put, List.setIfInBounds_toArray, List.set_cons_zero, List.set_cons_succ]
             refine wpAnyH_oneD (i := 13) rfl (by kernel_rfl) (fun K hK => ?_)
             refine hTV72.extB rfl (.tmp 89) (.tmp 91) rfl (by rfl) HS4 (by rfl) HQ2.out ?_
             intro vV73 V73 hTV73
             refine hK.out _ _ (HSP.out _ hTV73.below) (fun hS => ?_)
             clear hK
             try simp only [Act.put, List.setIfInBounds_toArray, List.set_cons_zero, List.set_cons_succ]
             obtain ⟨AA, ca, eA, _⟩ := own_sl hTV73.ownA
             obtain ⟨BB, cb, eB, _⟩ := own_sl hTV73.ownB
             rw [Q1.out] at eA
             rw [Q2.out] at eB
             subst eA eB
             refine wpAnyH_takeD (i := 14) (v := ?_) rfl (by kernel_rfl) (by kernel_rfl) (by kernel_rfl) (fun _ _ _ h => h) (Or.inl ⟨by kernel_rfl, ?_⟩) hS ?_
             rotate_left 1
             · (intro w' hSw; (try dsimp only at hSw); go_simp; try (with_reducible rfl))
             try simp only [Act.put, List.setIfInBounds_toArray, List.set_cons_zero, List.set_cons_succ]
             refine wpAnyH_oneD (i := 16) rfl (by kernel_rfl) (fun K hK => ?_)
             obtain ⟨_, _, _, _, eA, eB, hc, hE⟩ := hTV73.close
             clear eA eB
             obtain ⟨⟨x0, x1⟩, ⟨y0, y1⟩, hlt⟩ := blk2 hc
             go_simp
             refine hK.out _ _ (HSP.out _ (hE _ rfl).choose_spec.choose_spec.choose_spec.choose_spec.choose_spec.2.2.2.2.2.2) (fun hS => ?_)
             clear hK
             try simp only [Act.put, List.setIfInBounds_toArray, List.set_cons_zero, List.set_cons_succ]
             refine wpAnyH_done (by kernel_rfl) ?_ _
             go_wp2_with fail
             go_meet
             exact hE _ rfl
           next =>
            go_simp
            obtain ⟨V75, hwV75⟩ : ∃ W, W = V1.alloc (.cells #[.slice none 0 0, .slice none 0 0] 51) := ⟨_, rfl⟩
            have hTV75 := hTV1.alloc
            rw [← hwV75] at hTV75
            rw [← hwV75]
            clear hwV75
            refine hK.out _ _ (HSP.out _ hTV75.below) (fun hS => ?_)
            clear hK
            try simp only [Act.put, List.setIfInBounds_toArray, List.set_cons_zero, List.set_cons_succ]
            refine wpAnyH_ready (rs := [3, 7]) (by kernel_rfl) (by simp) ?_
            refine (allReadyH_consD (i := 3) rfl (fun K hK => ?_) (allReadyH_consD (i := 7) rfl (fun K hK => ?_) AllReadyH.nil))
            next =>
             refine hTV75.extA rfl (.tmp 79) (.tmp 81) rfl (by rfl) HS3 (by rfl) HQ0.out ?_
             intro vV76 V76 hTV76
             refine hK.out _ _ (HSP.out _ hTV76.below) (fun hS => ?_)
             clear hK
             try simp only [Act.put, List.setIfInBounds_toArray, List.set_cons_zero, List.set_cons_succ]
             refine wpAnyH_ready (rs := [6, 7]) (by kernel_rfl) (by simp) ?_
             refine (allReadyH_consD (i := 6) rfl (fun K hK => ?_) (allReadyH_consD (i := 7) rfl (fun K hK => ?_) AllReadyH.nil))
             next =>
              refine hTV76.extA rfl (.tmp 82) (.tmp 84) rfl (by rfl) HS4 (by rfl) HQ1.out ?_
              intro vV77 V77 hTV77
              refine hK.out _ _ (HSP.out _ hTV77.below) (fun hS => ?_)
              clear hK
              try simp only [Act.put, List.setIfInBounds_toArray, List.set_cons_zero, List.set_cons_succ]
              refine wpAnyH_oneD (i := 7) rfl (by kernel_rfl) (fun K hK => ?_)
              refine hTV77.empB rfl rfl ?_
              intro vV78 V78 hTV78
              refine hK.out _ _ (HSP.out _ hTV78.below) (fun hS => ?_)
              clear hK
              try simp only [Act.put, List.setIfInBounds_toArray, List.set_cons_zero, List.set_cons_succ]
              refine wpAnyH_oneD (i := 10) rfl (by kernel_rfl) (fun K hK => ?_)
              refine hTV78.extB rfl (.tmp 86) (.tmp 88) rfl (by rfl) HS4 (by rfl) HQ3.out ?_
              intro vV79 V79 hTV79
              refine hK.out _ _ (HSP.out _ hTV79.below) (fun hS => ?_)
              clear hK
              try simp only [Act.put, List.setIfInBounds_toArray, List.set_cons_zero, List.set_cons_succ]
              refine wpAnyH_oneD (i := 13) rfl (by kernel_rfl) (fun K hK => ?_)
              refine hTV79.extB rfl (.tmp 89) (.tmp 91) rfl (by rfl) HS4 (by rfl) HQ2.out ?_
              intro vV80 V80 hTV80
              refine hK.out _ _ (HSP.out _ hTV80.below) (fun hS => ?_)
              clear hK
              try simp only [Act.put, List.setIfInBounds_toArray, List.set_cons_zero, List.set_cons_succ]
              obtain ⟨AA, ca, eA, _⟩ := own_sl hTV80.ownA
              obtain ⟨BB, cb, eB, _⟩ := own_sl hTV80.ownB
              rw [Q1.out] at eA
              rw [Q2.out] at eB
              subst eA eB
              refine wpAnyH_takeD (i := 14) (v := ?_) rfl (by kernel_rfl) (by kernel_rfl) (by kernel_rfl) (fun _ _ _ h => h) (Or.inl ⟨by kernel_rfl, ?_⟩) hS ?_
              rotate_left 1
              · (intro w' hSw; (try dsimp only at hSw); go_simp; try (with_reducible rfl))
              try simp only [Act.put, List.setIfInBounds_toArray, List.set_cons_zero, List.set_cons_succ]
              refine wpAnyH_oneD (i := 16) rfl (by kernel_rfl) (fun K hK => ?_)
              obtain ⟨_, _, _, _, eA, eB, hc, hE⟩ := hTV80.close
              clear eA eB
              obtain ⟨⟨x0, x1⟩, ⟨y0, y1⟩, hlt⟩ := blk2 hc
              go_simp
              refine hK.out _ _ (HSP.out _ (hE _ rfl).choose_spec.choose_spec.choose_spec.choose_spec.choose_spec.2.2.2.2.2.2) (fun hS => ?_)
              clear hK
              try simp only [Act.put, List.setIfInBounds_toArray, List.set_cons_zero, List.set_cons_succ]
              refine wpAnyH_done (by kernel_rfl) ?_ _
              go_wp2_with fail
              go_meet
              exact hE _ rfl
             next =>
              refine hTV76.empB rfl rfl ?_
              intro vV82 V82 hTV82
              refine hK.out _ _ (HSP.out _ hTV82.below) (fun hS => ?_)
              clear hK
              try simp only [Act.put, List.setIfInBounds_toArray, List.set_cons_zero, List.set_cons_succ]
              refine wpAnyH_oneD (i := 6) rfl (by kernel_rfl) (fun K hK => ?_)
              refine hTV82.extA rfl (.tmp 82) (.tmp 84) rfl (by rfl) HS4 (by rfl) HQ1.out ?_
              intro vV83 V83 hTV83
              refine hK.out _ _ (HSP.out _ hTV83.below) (fun hS => ?_)
              clear hK
              try simp only [Act.put, List.setIfInBounds_toArray, List.set_cons_zero, List.set_cons_succ]
              refine wpAnyH_oneD (i := 10) rfl (by kernel_rfl) (fun K hK => ?_)
              refine hTV83.extB rfl (.tmp 86) (.tmp 88) rfl (by rfl) HS4 (by rfl) HQ3.out ?_
              intro vV84 V84 hTV84
              refine hK.out _ _ (HSP.out _ hTV84.below) (fun hS => ?_)
              clear hK
              try simp only [Act.put, List.setIfInBounds_toArray, List.set_cons_zero, List.set_cons_succ]
              refine wpAnyH_oneD (i := 13) rfl (by kernel_rfl) (fun K hK => ?_)
              refine hTV84.extB rfl (.tmp 89) (.tmp 91) rfl (by rfl) HS4 (by rfl) HQ2.out ?_
              intro vV85 V85 hTV85
              refine hK.out _ _ (HSP.out _ hTV85.below) (fun hS => ?_)
              clear hK
              try simp only [Act.put, List.setIfInBounds_toArray, List.set_cons_zero, List.set_cons_succ]
              obtain ⟨AA, ca, eA, _⟩ := own_sl hTV85.ownA
              obtain ⟨BB, cb, eB, _⟩ := own_sl hTV85.ownB
              rw [Q1.out] at eA
              rw [Q2.out] at eB
              subst eA eB
              refine wpAnyH_takeD (i := 14) (v := ?_) rfl (by kernel_rfl) (by kernel_rfl) (by kernel_rfl) (fun _ _ _ h => h) (Or.inl ⟨by kernel_rfl, ?_⟩) hS ?_
              rotate_left 1
              · (intro w' hSw; (try dsimp only at hSw); go_simp; try (with_reducible rfl))
              try simp only [Act.put, List.setIfInBounds_toArray, List.set_cons_zero, List.set_cons_succ]
              refine wpAnyH_oneD (i := 16) rfl (by kernel_rfl) (fun K hK => ?_)
              obtain ⟨_, _, _, _, eA, eB, hc, hE⟩ := hTV85.close
              clear eA eB
              obtain ⟨⟨x0, x1⟩, ⟨y0, y1⟩, hlt⟩ := blk2 hc
              go_simp
              refine hK.out _ _ (HSP.out _ (hE _ rfl).choose_spec.choose_spec.choose_spec.choose_spec.choose_spec.2.2.2.2.2.2) (fun hS => ?_)
              clear hK
              try simp only [Act.put, List.setIfInBounds_toArray, List.set_cons_zero, List.set_cons_succ]
              refine wpAnyH_done (by kernel_rfl) ?_ _
              go_wp2_with fail
              go_meet
              exact hE _ rfl
            next =>
             refine hTV75.empB rfl rfl ?_
             intro vV87 V87 hTV87
             refine hK.out _ _ (HSP.out _ hTV87.below) (fun hS => ?_)
             clear hK
             try simp only [Act.put, List.setIfInBounds_toArray, List.set_cons_zero, List.set_cons_succ]
             refine wpAnyH_oneD (i := 3) rfl (by kernel_rfl) (fun K hK => ?_)
             refine hTV87.extA rfl (.tmp 79) (.tmp 81) rfl (by rfl) HS3 (by rfl) HQ0.out ?_
             intro vV88 V88 hTV88
             refine hK.out _ _ (HSP.out _ hTV88.below) (fun hS => ?_)
             clear hK
             try simp only [Act.put, List.setIfInBounds_toArray, List.set_cons_zero, List.set_cons_succ]
             refine wpAnyH_oneD (i := 6) rfl (by kernel_rfl) (fun K hK => ?_)
             refine hTV88.extA rfl (.tmp 82) (.tmp 84) rfl (by rfl) HS4 (by rfl) HQ1.out ?_
             intro vV89 V89 hTV89
             refine hK.out _ _ (HSP.out _ hTV89.below) (fun hS => ?_)
             clear hK
             try simp only [Act.put, List.setIfInBounds_toArray, List.set_cons_zero, List.set_cons_succ]
             refine wpAnyH_oneD (i := 10) rfl (by kernel_rfl) (fun K hK => ?_)
             refine hTV89.extB rfl (.tmp 86) (.tmp 88) rfl (by rfl) HS4 (by rfl) HQ3.out ?_
             intro vV90 V90 hTV90
             refine hK.out _ _ (HSP.out _ hTV90.below) (fun hS => ?_)
             clear hK
             try simp only [Act.put, List.setIfInBounds_toArray, List.set_cons_zero, List.set_cons_succ]
             refine wpAnyH_oneD (i := 13) rfl (by kernel_rfl) (fun K hK => ?_)
             refine hTV90.extB rfl (.tmp 89) (.tmp 91) rfl (by rfl) HS4 (by rfl) HQ2.out ?_
             intro vV91 V91 hTV91
             refine hK.out _ _ (HSP.out _ hTV91.below) (fun hS => ?_)
             clear hK
             try simp only [Act.put, List.setIfInBounds_toArray, List.set_cons_zero, List.set_cons_succ]
             obtain ⟨AA, ca, eA, _⟩ := own_sl hTV91.ownA
             obtain ⟨BB, cb, eB, _⟩ := own_sl hTV91.ownB
             rw [Q1.out] at eA
             rw [Q2.out] at eB
             subst eA eB
             refine wpAnyH_takeD (i := 14) (v := ?_) rfl (by kernel_rfl) (by kernel_rfl) (by kernel_rfl) (fun _ _ _ h => h) (Or.inl ⟨by kernel_rfl, ?_⟩) hS ?_
             rotate_left 1
             · (intro w' hSw; (try dsimp only at hSw); go_simp; try (with_reducible rfl))
             try simp only [Act.put, List.setIfInBounds_toArray, List.set_cons_zero, List.set_cons_succ]
             refine wpAnyH_oneD (i := 16) rfl (by kernel_rfl) (fun K hK => ?_)
             obtain ⟨_, _, _, _, eA, eB, hc, hE⟩ := hTV91.close
             clear eA eB
             obtain ⟨⟨x0, x1⟩, ⟨y0, y1⟩, hlt⟩ := blk2 hc
             go_simp
             refine hK.out _ _ (HSP.out _ (hE _ rfl).choose_spec.choose_spec.choose_spec.choose_spec.choose_spec.2.2.2.2.2.2) (fun hS => ?_)
             clear hK
             try simp only [Act.put, List.setIfInBounds_toArray, List.set_cons_zero, List.set_cons_succ]
             refine wpAnyH_done (by kernel_rfl) ?_ _
             go_wp2_with fail
             go_meet
             exact hE _ rfl
          next =>
           refine hT0.empB rfl rfl ?_
           intro vV93 V93 hTV93
           refine hK.out _ _ (HSP.out _ hTV93.below) (fun hS => ?_)
           clear hK
           try simp only [Act.put, List.setIfInBounds_toArray, List.set_cons_zero, List.set_cons_succ]
           refine wpAnyH_ready (rs := [0, 15]) (by kernel_rfl) (by simp) ?_
           refine (allReadyH_consD (i := 0) rfl (fun K hK => ?_) (allReadyH_consD (i := 15) rfl (fun K hK => ?_) AllReadyH.nil))
           next =>
            refine hTV93.empA rfl rfl ?_
            intro vV94 V94 hTV94
            refine hK.out _ _ (HSP.out _ hTV94.below) (fun hS => ?_)
            clear hK
            try simp only [Act.put, List.setIfInBounds_toArray, List.set_cons_zero, List.set_cons_succ]
            refine wpAnyH_ready (rs := [3, 15]) (by kernel_rfl) (by simp) ?_
            refine (allReadyH_consD (i := 3) rfl (fun K hK => ?_) (allReadyH_consD (i := 15) rfl (fun K hK => ?_) AllReadyH.nil))
            next =>
             refine hTV94.extA rfl (.tmp 79) (.tmp 81) rfl (by rfl) HS3 (by rfl) HQ0.out ?_
             intro vV95 V95 hTV95
             refine hK.out _ _ (HSP.out _ hTV95.below) (fun hS => ?_)
             clear hK
             try simp only [Act.put, List.setIfInBounds_toArray, List.set_cons_zero, List.set_cons_succ]
             refine wpAnyH_ready (rs := [6, 15]) (by kernel_rfl) (by simp) ?_
             refine (allReadyH_consD (i := 6) rfl (fun K hK => ?_) (allReadyH_consD (i := 15) rfl (fun K hK => ?_) AllReadyH.nil))
             next =>
              refine hTV95.extA rfl (.tmp 82) (.tmp 84) rfl (by rfl) HS4 (by rfl) HQ1.out ?_
              intro vV96 V96 hTV96
              refine hK.out _ _ (HSP.out _ hTV96.below) (fun hS => ?_)
              clear hK
              try simp only [Act.put, List.setIfInBounds_toArray, List.set_cons_zero, List.set_cons_succ]
              refine wpAnyH_ready (rs := [10, 15]) (by kernel_rfl) (by simp) ?_
              refine (allReadyH_consD (i := 10) rfl (fun K hK => ?_) (allReadyH_consD (i := 15) rfl (fun K hK => ?_) AllReadyH.nil))
              next =>
               refine hTV96.extB rfl (.tmp 86) (.tmp 88) rfl (by rfl) HS4 (by rfl) HQ3.out ?_
               intro vV97 V97 hTV97
               refine hK.out _ _ (HSP.out _ hTV97.below) (fun hS => ?_)
               clear hK
               try simp only [Act.put, List.setIfInBounds_toArray, List.set_cons_zero, List.set_cons_succ]
               refine wpAnyH_ready (rs := [13, 15]) (by kernel_rfl) (by simp) ?_
               refine (allReadyH_consD (i := 13) rfl (fun K hK => ?_) (allReadyH_consD (i := 15) rfl (fun K hK => ?_) AllReadyH.nil))
               next =>
                refine hTV97.extB rfl (.tmp 89) (.tmp 91) rfl (by rfl) HS4 (by rfl) HQ2.out ?_
                intro vV98 V98 hTV98
                refine hK.out _ _ (HSP.out _ hTV98.below) (fun hS => ?_)
                clear hK
                try simp only [Act.put, List.setIfInBounds_toArray, List.set_cons_zero, List.set_cons_succ]
                obtain ⟨AA, ca, eA, _⟩ := own_sl hTV98.ownA
                obtain ⟨BB, cb, eB, _⟩ := own_sl hTV98.ownB
                rw [Q1.out] at eA
                rw [Q2.out] at eB
                subst eA eB
                refine wpAnyH_takeD (i := 14) (v := ?_) rfl (by kernel_rfl) (by kernel_rfl) (by kernel_rfl) (fun _ _ _ h => h) (Or.inl ⟨by kernel_rfl, ?_⟩) hS ?_
                rotate_left 1
                · (intro w' hSw; (try dsimp only at hSw); go_simp; try (with_reducible rfl))
                try simp only [Act.put, List.setIfInBounds_toArray, List.set_cons_zero, List.set_cons_succ]
                refine wpAnyH_oneD (i := 15) rfl (by kernel_rfl) (fun K hK => ?_)
                go_simp
                obtain ⟨V99, hwV99⟩ : ∃ W, W = V98.alloc (.cells #[.slice none 0 0, .slice none 0 0] 51) := ⟨_, rfl⟩
                have hTV99 := hTV98.alloc
                rw [← hwV99] at hTV99
                rw [← hwV99]
                clear hwV99
                refine hK.out _ _ (HSP.out _ hTV99.below) (fun hS => ?_)
                clear hK
                try simp only [Act.put, List.setIfInBounds_toArray, List.set_cons_zero, List.set_cons_succ]
                refine wpAnyH_oneD (i := 16) rfl (by kernel_rfl) (fun K hK => ?_)
                obtain ⟨_, _, _, _, eA, eB, hc, hE⟩ := hTV99.close
                clear eA eB
                obtain ⟨⟨x0, x1⟩, ⟨y0, y1⟩, hlt⟩ := blk2 hc
                go_simp
                refine hK.out _ _ (HSP.out _ (hE _ rfl).choose_spec.choose_spec.choose_spec.choose_spec.choose_spec.2.2.2.2.2.2) (fun hS => ?_)
                clear hK
                try simp only [Act.put, List.setIfInBounds_toArray, List.set_cons_zero, List.set_cons_succ]
                refine wpAnyH_done (by kernel_rfl) ?_ _
                go_wp2_with fail
                go_meet
                exact hE _ rfl
               next =>
                go_simp
                obtain ⟨V101, hwV101⟩ : ∃ W, W = V97.alloc (.cells #[.slice none 0 0, .slice none 0 0] 51) := ⟨_, rfl⟩
                have hTV101 := hTV97.alloc
                rw [← hwV101] at hTV101
                rw [← hwV101]
                clear hwV101
                refine hK.out _ _ (HSP.out _ hTV101.below) (fun hS => ?_)
                clear hK
                try simp only [Act.put, List.setIfInBounds_toArray, List.set_cons_zero, List.set_cons_succ]
                refine wpAnyH_oneD (i := 13) rfl (by kernel_rfl) (fun K hK => ?_)
                refine hTV101.extB rfl (.tmp 89) (.tmp 91) rfl (by rfl) HS4 (by rfl) HQ2.out ?_
                intro vV102 V102 hTV102
                refine hK.out _ _ (HSP.out _ hTV102.below) (fun hS => ?_)
                clear hK
                try simp only [Act.put, List.setIfInBounds_toArray, List.set_cons_zero, List.set_cons_succ]
                obtain ⟨AA, ca, eA, _⟩ := own_sl hTV102.ownA
                obtain ⟨BB, cb, eB, _⟩ := own_sl hTV102.ownB
                rw [Q1.out] at eA
                rw [Q2.out] at eB
                subst eA eB
                refine wpAnyH_takeD (i := 14) (v := ?_) rfl (by kernel_rfl) (by kernel_rfl) (by kernel_rfl) (fun _ _ _ h => h) (Or.inl ⟨by kernel_rfl, ?_⟩) hS ?_
                rotate_left 1
                · (intro w' hSw; (try dsimp only at hSw); go_simp; try (with_reducible rfl))
                try simp only [Act.put, List.setIfInBounds_toArray, List.set_cons_zero, List.set_cons_succ]
                refine wpAnyH_oneD (i := 16) rfl (by kernel_rfl) (fun K hK => ?_)
                obtain ⟨_, _, _, _, eA, eB, hc, hE⟩ := hTV102.close
                clear eA eB
                obtain ⟨⟨x0, x1⟩, ⟨y0, y1⟩, hlt⟩ := blk2 hc
                go_simp
                refine hK.out _ _ (HSP.out _ (hE _ rfl).choose_spec.choose_spec.choose_spec.choose_spec.choose_spec.2.2.2.2.2.2) (fun hS => ?_)
                clear hK
                try simp only [Act.put, List.setIfInBounds_toArray, List.set_cons_zero, List.set_cons_succ]
                refine wpAnyH_done (by kernel_rfl) ?_ _
                go_wp2_with fail
                go_meet
                exact hE _ rfl
              next =>
               go_simp
               obtain ⟨V104, hwV104⟩ : ∃ W, W = V96.alloc (.cells #[.slice none 0 0, .slice none 0 0] 51) := ⟨_, rfl⟩
               have hTV104 := hTV96.alloc
               rw [← hwV104] at hTV104
               rw [← hwV104]
               clear hwV104
               refine hK.out _ _ (HSP.out _ hTV104.below) (fun hS => ?_)
               clear hK
               try simp only [Act.put, List.setIfInBounds_toArray, List.set_cons_zero, List.set_cons_succ]
               refine wpAnyH_oneD (i := 10) rfl (by kernel_rfl) (fun K hK => ?_)
               refine hTV104.extB rfl (.tmp 86) (.tmp 88) rfl (by rfl) HS4 (by rfl) HQ3.out ?_
               intro vV105 V105 hTV105
               refine hK.out _ _ (HSP.out _ hTV105.below) (fun hS => ?_)
               clear hK
               try simp only [Act.put, List.setIfInBounds_toArray, List.set_cons_zero, List.set_cons_succ]
               refine wpAnyH_oneD (i := 13) rfl (by kernel_rfl) (fun K hK => ?_)
               refine hTV105.extB rfl (.tmp 89) (.tmp 91) rfl (by rfl) HS4 (by rfl) HQ2.out ?_
               intro vV106 V106 hTV106
               refine hK.out _ _ (HSP.out _ hTV106.below) (fun hS => ?_)
               clear hK
               try simp only [Act.put, List.setIfInBounds_toArray, List.set_cons_zero, List.set_cons_succ]
               obtain ⟨AA, ca, eA, _⟩ := own_sl hTV106.ownA
               obtain ⟨BB, cb, eB, _⟩ := own_sl hTV106.ownB
               rw [Q1.out] at eA
               rw [Q2.out] at eB
               subst eA eB
               refine wpAnyH_takeD (i := 14) (v := ?_) rfl (by kernel_rfl) (by kernel_rfl) (by kernel_rfl) (fun _ _ _ h => h) (Or.inl ⟨by kernel_rfl, ?_⟩) hS ?_
               rotate_left 1
               · (intro w' hSw; (try dsimp only at hSw); go_simp; try (with_reducible rfl))
               try simp only [Act.put, List.setIfInBounds_toArray, List.set_cons_zero, List.set_cons_succ]
               refine wpAnyH_oneD (i := 16) rfl (by kernel_rfl) (fun K hK => ?_)
               obtain ⟨_, _, _, _, eA, eB, hc, hE⟩ := hTV106.close
               clear eA eB
               obtain ⟨⟨x0, x1⟩, ⟨y0, y1⟩, hlt⟩ := blk2 hc
               go_simp
               refine hK.out _ _ (HSP.out _ (hE _ rfl).choose_spec.choose_spec.choose_spec.choose_spec.choose_spec.2.2.2.2.2.2) (fun hS => ?_)
               clear hK
               try simp only [Act.put, List.setIfInBounds_toArray, List.set_cons_zero, List.set_cons_succ]
               refine wpAnyH_done (by kernel_rfl) ?_ _
               go_wp2_with fail
               go_meet
               exact hE _ rfl
             next =>
              go_simp
              obtain ⟨V108, hwV108⟩ : ∃ W, W = V95.alloc (.cells #[.slice none 0 0, .slice none 0 0] 51) := ⟨_, rfl⟩
              have hTV108 := hTV95.alloc
              rw [← hwV108] at hTV108
              rw [← hwV108]
              clear hwV108
              refine hK.out _ _ (HSP.out _ hTV108.below) (fun hS => ?_)
              clear hK
              try simp only [Act.put, List.setIfInBounds_toArray, List.set_cons_zero, List.set_cons_succ]
              refine wpAnyH_oneD (i := 6) rfl (by kernel_rfl) (fun K hK => ?_)
              refine hTV108.extA rfl (.tmp 82) (.tmp 84) rfl (by rfl) HS4 (by rfl) HQ1.out ?_
              intro vV109 V109 hTV109
              refine hK.out _ _ (HSP.out _ hTV109.below) (fun hS => ?_)
              clear hK
              try simp only [Act.put, List.setIfInBounds_toArray, List.set_cons_zero, List.set_cons_succ]
              refine wpAnyH_oneD (i := 10) rfl (by kernel_rfl) (fun K hK => ?_)
              refine hTV109.extB rfl (.tmp 86) (.tmp 88) rfl (by rfl) HS4 (by rfl) HQ3.out ?_
              intro vV110 V110 hTV110
              refine hK.out _ _ (HSP.out _ hTV110.below) (fun hS => ?_)
              clear hK
              try simp only [Act.put, List.setIfInBounds_toArray, List.set_cons_zero, List.set_cons_succ]
              refine wpAnyH_oneD (i := 13) rfl (by kernel_rfl) (fun K hK => ?_)
              refine hTV110.extB rfl (.tmp 89) (.tmp 91) rfl (by rfl) HS4 (by rfl) HQ2.out ?_
              intro vV111 V111 hTV111
              refine hK.out _ _ (HSP.out _ hTV111.below) (fun hS => ?_)
              clear hK
              try simp only [Act.put, List.setIfInBounds_toArray, List.set_cons_zero, List.set_cons_succ]
              obtain ⟨AA, ca, eA, _⟩ := own_sl hTV111.ownA
              obtain ⟨BB, cb, eB, _⟩ := own_sl hTV111.ownB
              rw [Q1.out] at eA
              rw [Q2.out] at eB
              subst eA eB
              refine wpAnyH_takeD (i := 14) (v := ?_) rfl (by kernel_rfl) (by kernel_rfl) (by kernel_rfl) (fun _ _ _ h => h) (Or.inl ⟨by kernel_rfl, ?_⟩) hS ?_
              rotate_left 1
              · (intro w' hSw; (try dsimp only at hSw); go_simp; try (with_reducible rfl))
              try simp only [Act.put, List.setIfInBounds_toArray, List.set_cons_zero, List.set_cons_succ]
              refine wpAnyH_oneD (i := 16) rfl (by kernel_rfl) (fun K hK => ?_)
              obtain ⟨_, _, _, _, eA, eB, hc, hE⟩ := hTV111.close
              clear eA eB
              obtain ⟨⟨x0, x1⟩, ⟨y0, y1⟩, hlt⟩ := blk2 hc
              go_simp
              refine hK.out _ _ (HSP.out _ (hE _ rfl).choose_spec.choose_spec.choose_spec.choose_spec.choose_spec.2.2.2.2.2.2) (fun hS => ?_)
              clear hK
              try simp only [Act.put, List.setIfInBounds_toArray, List.set_cons_zero, List.set_cons_succ]
              refine wpAnyH_done (by kernel_rfl) ?_ _
              go_wp2_with fail
              go_meet
              exact hE _ rfl
            next =>
             go_simp
             obtain ⟨V113, hwV113⟩ : ∃ W, W = V94.alloc (.cells #[.slice none 0 0, .slice none 0 0] 51) := ⟨_, rfl⟩
             have hTV113 := hTV94.alloc
             rw [← hwV113] at hTV113
             rw [← hwV113]
             clear hwV113
             refine hK.out _ _ (HSP.out _ hTV113.below) (fun hS => ?_)
             clear hK
             try simp only [Act.put, List.setIfInBounds_toArray, List.set_cons_zero, List.set_cons_succ]
             refine wpAnyH_oneD (i := 3) rfl (by kernel_rfl) (fun K hK => ?_)
             refine hTV113.extA rfl (.tmp 79) (.tmp 81) rfl (by rfl) HS3 (by rfl) HQ0.out ?_
             intro vV114 V114 hTV114
             refine hK.out _ _ (HSP.out _ hTV114.below) (fun hS => ?_)
             clear hK
             try simp only [Act.put, List.setIfInBounds_toArray, List.set_cons_zero, List.set_cons_succ]
             refine wpAnyH_oneD (i := 6) rfl (by kernel_rfl) (fun K hK => ?_)
             refine hTV114.extA rfl (.tmp 82) (.tmp 84) rfl (by rfl) HS4 (by rfl) HQ1.out ?_
             intro vV115 V115 hTV115
             refine hK.out _ _ (HSP.out _ hTV115.below) (fun hS => ?_)
             clear hK
             try simp only [Act.put, List.setIfInBounds_toArray, List.set_cons_zero, List.set_cons_succ]
             refine wpAnyH_oneD (i := 10) rfl (by kernel_rfl) (fun K hK => ?_)
             refine hTV115.extB rfl (.tmp 86) (.tmp 88) rfl (by rfl) HS4 (by rfl) HQ3.out ?_
             intro vV116 V116 hTV116
             refine hK.out _ _ (HSP.out _ hTV116.below) (fun hS => ?_)
             clear hK
             try simp only [Act.put, List.setIfInBounds_toArray, List.set_cons_zero, List.set_cons_succ]
             refine wpAnyH_oneD (i := 13) rfl (by kernel_rfl) (fun K hK => ?_)
             refine hTV116.extB rfl (.tmp 89) (.tmp 91) rfl (by rfl) HS4 (by rfl) HQ2.out ?_
             intro vV117 V117 hTV117
             refine hK.out _ _ (HSP.out _ hTV117.below) (fun hS => ?_)
             clear hK
             try simp only [Act.put, List.setIfInBounds_toArray, List.set_cons_zero, List.set_cons_succ]
             obtain ⟨AA, ca, eA, _⟩ := own_sl hTV117.ownA
             obtain ⟨BB, cb, eB, _⟩ := own_sl hTV117.ownB
             rw [Q1.out] at eA
             rw [Q2.out] at eB
             subst eA eB
             refine wpAnyH_takeD (i := 14) (v := ?_) rfl (by kernel_rfl) (by kernel_rfl) (by kernel_rfl) (fun _ _ _ h => h) (Or.inl ⟨by kernel_rfl, ?_⟩) hS ?_
             rotate_left 1
             · (intro w' hSw; (try dsimp only at hSw); go_simp; try (with_reducible rfl))
             try simp only [Act.put, List.setIfInBounds_toArray, List.set_cons_zero, List.set_cons_succ]
             refine wpAnyH_oneD (i := 16) rfl (by kernel_rfl) (fun K hK => ?_)
             obtain ⟨_, _, _, _, eA, eB, hc, hE⟩ := hTV117.close
             clear eA eB
             obtain ⟨⟨x0, x1⟩, ⟨y0, y1⟩, hlt⟩ := blk2 hc
             go_simp
             refine hK.out _ _ (HSP.out _ (hE _ rfl).choose_spec.choose_spec.choose_spec.choose_spec.choose_spec.2.2.2.2.2.2) (fun hS => ?_)
             clear hK
             try simp only [Act.put, List.setIfInBounds_toArray, List.set_cons_zero, List.set_cons_succ]
             refine wpAnyH_done (by kernel_rfl) ?_ _
             go_wp2_with fail
             go_meet
             exact hE _ rfl
           next =>
            go_simp
            obtain ⟨V119, hwV119⟩ : ∃ W, W = V93.alloc (.cells #[.slice none 0 0, .slice none 0 0] 51) := ⟨_, rfl⟩
            have hTV119 := hTV93.alloc
            rw [← hwV119] at hTV119
            rw [← hwV119]
            clear hwV119
            refine hK.out _ _ (HSP.out _ hTV119.below) (fun hS => ?_)
            clear hK
            try simp only [Act.put, List.setIfInBounds_toArray, List.set_cons_zero, List.set_cons_succ]
            refine wpAnyH_oneD (i := 0) rfl (by kernel_rfl) (fun K hK => ?_)
            refine hTV119.empA rfl rfl ?_
            intro vV120 V120 hTV120
            refine hK.out _ _ (HSP.out _ hTV120.below) (fun hS => ?_)
            clear hK
            try simp only [Act.put, List.setIfInBounds_toArray, List.set_cons_zero, List.set_cons_succ]
            refine wpAnyH_oneD (i := 3) rfl (by kernel_rfl) (fun K hK => ?_)
            refine hTV120.extA rfl (.tmp 79) (.tmp 81) rfl (by rfl) HS3 (by rfl) HQ0.out ?_
            intro vV121 V121 hTV121
            refine hK.out _ _ (HSP.out _ hTV121.below) (fun hS => ?_)
            clear hK
            try simp only [Act.put, List.setIfInBounds_toArray, List.set_cons_zero, List.set_cons_succ]
            refine wpAnyH_oneD (i := 6) rfl (by kernel_rfl) (fun K hK => ?_)
            refine hTV121.extA rfl (.tmp 82) (.tmp 84) rfl (by rfl) HS4 (by rfl) HQ1.out ?_
            intro vV122 V122 hTV122
            refine hK.out _ _ (HSP.out _ hTV122.below) (fun hS => ?_)
            clear hK
            try simp only [Act.put, List.setIfInBounds_toArray, List.set_cons_zero, List.set_cons_succ]
            refine wpAnyH_oneD (i := 10) rfl (by kernel_rfl) (fun K hK => ?_)
            refine hTV122.extB rfl (.tmp 86) (.tmp 88) rfl (by rfl) HS4 (by rfl) HQ3.out ?_
            intro vV123 V123 hTV123
            refine hK.out _ _ (HSP.out _ hTV123.below) (fun hS => ?_)
            clear hK
            try simp only [Act.put, List.setIfInBounds_toArray, List.set_cons_zero, List.set_cons_succ]
            refine wpAnyH_oneD (i := 13) rfl (by kernel_rfl) (fun K hK => ?_)
            refine hTV123.extB rfl (.tmp 89) (.tmp 91) rfl (by rfl) HS4 (by rfl) HQ2.out ?_
            intro vV124 V124 hTV124
            refine hK.out _ _ (HSP.out _ hTV124.below) (fun hS => ?_)
            clear hK
            try simp only [Act.put, List.setIfInBounds_toArray, List.set_cons_zero, List.set_cons_succ]
            obtain ⟨AA, ca, eA, _⟩ := own_sl hTV124.ownA
            obtain ⟨BB, cb, eB, _⟩ := own_sl hTV124.ownB
            rw [Q1.out] at eA
            rw [Q2.out] at eB
            subst eA eB
            refine wpAnyH_takeD (i := 14) (v := ?_) rfl (by kernel_rfl) (by kernel_rfl) (by kernel_rfl) (fun _ _ _ h => h) (Or.inl ⟨by kernel_rfl, ?_⟩) hS ?_
            rotate_left 1
            · (intro w' hSw; (try dsimp only at hSw); go_simp; try (with_reducible rfl))
            try simp only [Act.put, List.setIfInBounds_toArray, List.set_cons_zero, List.set_cons_succ]
            refine wpAnyH_oneD (i := 16) rfl (by kernel_rfl) (fun K hK => ?_)
            obtain ⟨_, _, _, _, eA, eB, hc, hE⟩ := hTV124.close
            clear eA eB
            obtain ⟨⟨x0, x1⟩, ⟨y0, y1⟩, hlt⟩ := blk2 hc
            go_simp
            refine hK.out _ _ (HSP.out _ (hE _ rfl).choose_spec.choose_spec.choose_spec.choose_spec.choose_spec.2.2.2.2.2.2) (fun hS => ?_)
            clear hK
            try simp only [Act.put, List.setIfInBounds_toArray, List.set_cons_zero, List.set_cons_succ]
            refine wpAnyH_done (by kernel_rfl) ?_ _
            go_wp2_with fail
            go_meet
            exact hE _ rfl
          next =>
           go_simp
           obtain ⟨V126, hwV126⟩ : ∃ W, W = (w4.alloc (.cells #[.slice none 0 0, .slice none 0 0] 51)).drew := ⟨_, rfl⟩
           have hTV126 : TwR w4 none none (some w4.heap.size) V126 := by rw [hwV126]; exact TwR.alloc0 w4
           rw [← hwV126]
           clear hwV126
           refine hK.out _ _ (HSP.out _ hTV126.below) (fun hS => ?_)
           clear hK
           try simp only [Act.put, List.setIfInBounds_toArray, List.set_cons_zero, List.set_cons_succ]
           refine wpAnyH_ready (rs := [0, 7]) (by kernel_rfl) (by simp) ?_
           refine (allReadyH_consD (i := 0) rfl (fun K hK => ?_) (allReadyH_consD (i := 7) rfl (fun K hK => ?_) AllReadyH.nil))
           next =>
            refine hTV126.empA rfl rfl ?_
            intro vV127 V127 hTV127
            refine hK.out _ _ (HSP.out _ hTV127.below) (fun hS => ?_)
            clear hK
            try simp only [Act.put, List.setIfInBounds_toArray, List.set_cons_zero, List.set_cons_succ]
            refine wpAnyH_ready (rs := [3, 7]) (by kernel_rfl) (by simp) ?_
            refine (allReadyH_consD (i := 3) rfl (fun K hK => ?_) (allReadyH_consD (i := 7) rfl (fun K hK => ?_) AllReadyH.nil))
            next =>
             refine hTV127.extA rfl (.tmp 79) (.tmp 81) rfl (by rfl) HS3 (by rfl) HQ0.out ?_
             intro vV128 V128 hTV128
             refine hK.out _ _ (HSP.out _ hTV128.below) (fun hS => ?_)
             clear hK
             try simp only [Act.put, List.setIfInBounds_toArray, List.set_cons_zero, List.set_cons_succ]
             refine wpAnyH_ready (rs := [6, 7]) (by kernel_rfl) (by simp) ?_
             refine (allReadyH_consD (i := 6) rfl (fun K hK => ?_) (allReadyH_consD (i := 7) rfl (fun K hK => ?_) AllReadyH.nil))
             next =>
              refine hTV128.extA rfl (.tmp 82) (.tmp 84) rfl (by rfl) HS4 (by rfl) HQ1.out ?_
              intro vV129 V129 hTV129
              refine hK.out _ _ (HSP.out _ hTV129.below) (fun hS => ?_)
              clear hK
              try simp only [Act.put, List.setIfInBounds_toArray, List.set_cons_zero, List.set_cons_succ]
              refine wpAnyH_oneD (i := 7) rfl (by kernel_rfl) (fun K hK => ?_)
              refine hTV129.empB rfl rfl ?_
              intro vV130 V130 hTV130
              refine hK.out _ _ (HSP.out _ hTV130.below) (fun hS => ?_)
              clear hK
              try simp only [Act.put, List.setIfInBounds_toArray, List.set_cons_zero, List.set_cons_succ]
              refine wpAnyH_oneD (i := 10) rfl (by kernel_rfl) (fun K hK => ?_)
              refine hTV130.extB rfl (.tmp 86) (.tmp 88) rfl (by rfl) HS4 (by rfl) HQ3.out ?_
              intro vV131 V131 hTV131
              refine hK.out _ _ (HSP.out _ hTV131.below) (fun hS => ?_)
              clear hK
              try simp only [Act.put, List.setIfInBounds_toArray, List.set_cons_zero, List.set_cons_succ]
              refine wpAnyH_oneD (i := 13) rfl (by kernel_rfl) (fun K hK => ?_)
              refine hTV131.extB rfl (.tmp 89) (.tmp 91) rfl (by rfl) HS4 (by rfl) HQ2.out ?_
              intro vV132 V132 hTV132
              refine hK.out _ _ (HSP.out _ hTV132.below) (fun hS => ?_)
              clear hK
              try simp only [Act.put, List.setIfInBounds_toArray, List.set_cons_zero, List.set_cons_succ]
              obtain ⟨AA, ca, eA, _⟩ := own_sl hTV132.ownA
              obtain ⟨BB, cb, eB, _⟩ := own_sl hTV132.ownB
              rw [Q1.out] at eA
              rw [Q2.out] at eB
              subst eA eB
              refine wpAnyH_takeD (i := 14) (v := ?_) rfl (by kernel_rfl) (by kernel_rfl) (by kernel_rfl) (fun _ _ _ h => h) (Or.inl ⟨by kernel_rfl, ?_⟩) hS ?_
              rotate_left 1
              · (intro w' hSw; (try dsimp only at hSw); go_simp; try (with_reducible rfl))
              try simp only [Act.put, List.setIfInBounds_toArray, List.set_cons_zero, List.set_cons_succ]
              refine wpAnyH_oneD (i := 16) rfl (by kernel_rfl) (fun K hK => ?_)
              obtain ⟨_, _, _, _, eA, eB, hc, hE⟩ := hTV132.close
              clear eA eB
              obtain ⟨⟨x0, x1⟩, ⟨y0, y1⟩, hlt⟩ := blk2 hc
              go_simp
              refine hK.out _ _ (HSP.out _ (hE _ rfl).choose_spec.choose_spec.choose_spec.choose_spec.choose_spec.2.2.2.2.2.2) (fun hS => ?_)
              clear hK
              try simp only [Act.put, List.setIfInBounds_toArray, List.set_cons_zero, List.set_cons_succ]
              refine wpAnyH_done (by kernel_rfl) ?_ _
              go_wp2_with fail
              go_meet
              exact hE _ rfl
             next =>
              refine hTV128.empB rfl rfl ?_
              intro vV134 V134 hTV134
              refine hK.out _ _ (HSP.out _ hTV134.below) (fun hS => ?_)
              clear hK
              try simp only [Act.put, List.setIfInBounds_toArray, List.set_cons_zero, List.set_cons_succ]
              refine wpAnyH_oneD (i := 6) rfl (by kernel_rfl) (fun K hK => ?_)
              refine hTV134.extA rfl (.tmp 82) (.tmp 84) rfl (by rfl) HS4 (by rfl) HQ1.out ?_
              intro vV135 V135 hTV135
              refine hK.out _ _ (HSP.out _ hTV135.below) (fun hS => ?_)
              clear hK
              try simp only [Act.put, List.setIfInBounds_toArray, List.set_cons_zero, List.set_cons_succ]
              refine wpAnyH_oneD (i := 10) rfl (by kernel_rfl) (fun K hK => ?_)
              refine hTV135.extB rfl (.tmp 86) (.tmp 88) rfl (by rfl) HS4 (by rfl) HQ3.out ?_
              intro vV136 V136 hTV136
              refine hK.out _ _ (HSP.out _ hTV136.below) (fun hS => ?_)
              clear hK
              try simp only [Act.put, List.setIfInBounds_toArray, List.set_cons_zero, List.set_cons_succ]
              refine wpAnyH_oneD (i := 13) rfl (by kernel_rfl) (fun K hK => ?_)
              refine hTV136.extB rfl (.tmp 89) (.tmp 91) rfl (by rfl) HS4 (by rfl) HQ2.out ?_
              intro vV137 V137 hTV137
              refine hK.out _ _ (HSP.out _ hTV137.below) (fun hS => ?_)
              clear hK
              try simp only [Act.put, List.setIfInBounds_toArray, List.set_cons_zero, List.set_cons_succ]
              obtain ⟨AA, ca, eA, _⟩ := own_sl hTV137.ownA
              obtain ⟨BB, cb, eB, _⟩ := own_sl hTV137.ownB
              rw [Q1.out] at eA
              rw [Q2.out] at eB
              subst eA eB
              refine wpAnyH_takeD (i := 14) (v := ?_) rfl (by kernel_rfl) (by kernel_rfl) (by kernel_rfl) (fun _ _ _ h => h) (Or.inl ⟨by kernel_rfl, ?_⟩) hS ?_
              rotate_left 1
              · (intro w' hSw; (try dsimp only at hSw); go_simp; try (with_reducible rfl))
              try simp only [Act.put, List.setIfInBounds_toArray, List.set_cons_zero, List.set_cons_succ]
              refine wpAnyH_oneD (i := 16) rfl (by kernel_rfl) (fun K hK => ?_)
              obtain ⟨_, _, _, _, eA, eB, hc, hE⟩ := hTV137.close
              clear eA eB
              obtain ⟨⟨x0, x1⟩, ⟨y0, y1⟩, hlt⟩ := blk2 hc
              go_simp
              refine hK.out _ _ (HSP.out _ (hE _ rfl).choose_spec.choose_spec.choose_spec.choose_spec.choose_spec.2.2.2.2.2.2) (fun hS => ?_)
              clear hK
              try simp only [Act.put, List.setIfInBounds_toArray, List.set_cons_zero, List.set_cons_succ]
              refine wpAnyH_done (by kernel_rfl) ?_ _
              go_wp2_with fail
              go_meet
              exact hE _ rfl
            next =>
             refine hTV127.empB rfl rfl ?_
             intro vV139 V139 hTV139
             refine hK.out _ _ (HSP.out _ hTV139.below) (fun hS => ?_)
             clear hK
             try simp only [Act.put, List.setIfInBounds_toArray, List.set_cons_zero, List.set_cons_succ]
             refine wpAnyH_oneD (i := 3) rfl (by kernel_rfl) (fun K hK => ?_)
             refine hTV139.extA rfl (.tmp 79) (.tmp 81) rfl (by rfl) HS3 (by rfl) HQ0.out ?_
             intro vV140 V140 hTV140
             refine hK.out _ _ (HSP.out _ hTV140.below) (fun hS => ?_)
             clear hK
             try simp only [Act.put, List.setIfInBounds_toArray, List.set_cons_zero, List.set_cons_succ]
             refine wpAnyH_oneD (i := 6) rfl (by kernel_rfl) (fun K hK => ?_)
             refine hTV140.extA rfl (.tmp 82) (.tmp 84) rfl (by rfl) HS4 (by rfl) HQ1.out ?_
             intro vV141 V141 hTV141
             refine hK.out _ _ (HSP.out _ hTV141.below) (fun hS => ?_)
             clear hK
             try simp only [Act.put, List.setIfInBounds_toArray, List.set_cons_zero, List.set_cons_succ]
             refine wpAnyH_oneD (i := 10) rfl (by kernel_rfl) (fun K hK => ?_)
             refine hTV141.extB rfl (.tmp 86) (.tmp 88) rfl (by rfl) HS4 (by rfl) HQ3.out ?_
             intro vV142 V142 hTV142
             refine hK.out _ _ (HSP.out _ hTV142.below) (fun hS => ?_)
             clear hK
             try simp only [Act.put, List.setIfInBounds_toArray, List.set_cons_zero, List.set_cons_succ]
             refine wpAnyH_oneD (i := 13) rfl (by kernel_rfl) (fun K hK => ?_)
             refine hTV142.extB rfl (.tmp 89) (.tmp 91) rfl (by rfl) HS4 (by rfl) HQ2.out ?_
             intro vV143 V143 hTV143
             refine hK.out _ _ (HSP.out _ hTV143.below) (fun hS => ?_)
             clear hK
             try simp only [Act.put, List.setIfInBounds_toArray, List.set_cons_zero, List.set_cons_succ]
             obtain ⟨AA, ca, eA, _⟩ := own_sl hTV143.ownA
             obtain ⟨BB, cb, eB, _⟩ := own_sl hTV143.ownB
             rw [Q1.out] at eA
             rw [Q2.out] at eB
             subst eA eB
             refine wpAnyH_takeD (i := 14) (v := ?_) rfl (by kernel_rfl) (by kernel_rfl) (by kernel_rfl) (fun _ _ _ h => h) (Or.inl ⟨by kernel_rfl, ?_⟩) hS ?_
             rotate_left 1
             · (intro w' hSw; (try dsimp only at hSw); go_simp; try (with_reducible rfl))
             try simp only [Act.put, List.setIfInBounds_toArray, List.set_cons_zero, List.set_cons_succ]
             refine wpAnyH_oneD (i := 16) rfl (by kernel_rfl) (fun K hK => ?_)
             obtain ⟨_, _, _, _, eA, eB, hc, hE⟩ := hTV143.close
             clear eA eB
             obtain ⟨⟨x0, x1⟩, ⟨y0, y1⟩, hlt⟩ := blk2 hc
             go_simp
             refine hK.out _ _ (HSP.out _ (hE _ rfl).choose_spec.choose_spec.choose_spec.choose_spec.choose_spec.2.2.2.2.2.2) (fun hS => ?_)
             clear hK
             try simp only [Act.put, List.setIfInBounds_toArray, List.set_cons_zero, List.set_cons_succ]
             refine wpAnyH_done (by kernel_rfl) ?_ _
             go_wp2_with fail
             go_meet
             exact hE _ rfl
           next =>
            refine hTV126.empB rfl rfl ?_
            intro vV145 V145 hTV145
            refine hK.out _ _ (HSP.out _ hTV145.below) (fun hS => ?_)
            clear hK
            try simp only [Act.put, List.setIfInBounds_toArray, List.set_cons_zero, List.set_cons_succ]
            refine wpAnyH_oneD (i := 0) rfl (by kernel_rfl) (fun K hK => ?_)
            refine hTV145.empA rfl rfl ?_
            intro vV146 V146 hTV146
            refine hK.out _ _ (HSP.out _ hTV146.below) (fun hS => ?_)
            clear hK
            try simp only [Act.put, List.setIfInBounds_toArray, List.set_cons_zero, List.set_cons_succ]
            refine wpAnyH_oneD (i := 3) rfl (by kernel_rfl) (fun K hK => ?_)
            refine hTV146.extA rfl (.tmp 79) (.tmp 81) rfl (by rfl) HS3 (by rfl) HQ0.out ?_
            intro vV147 V147 hTV147
            refine hK.out _ _ (HSP.out _ hTV147.below) (fun hS => ?_)
            clear hK
            try simp only [Act.put, List.setIfInBounds_toArray, List.set_cons_zero, List.set_cons_succ]
            refine wpAnyH_oneD (i := 6) rfl (by kernel_rfl) (fun K hK => ?_)
            refine hTV147.extA rfl (.tmp 82) (.tmp 84) rfl (by rfl) HS4 (by rfl) HQ1.out ?_
            intro vV148 V148 hTV148
            refine hK.out _ _ (HSP.out _ hTV148.below) (fun hS => ?_)
            clear hK
            try simp only [Act.put, List.setIfInBounds_toArray, List.set_cons_zero, List.set_cons_succ]
            refine wpAnyH_oneD (i := 10) rfl (by kernel_rfl) (fun K hK => ?_)
            refine hTV148.extB rfl (.tmp 86) (.tmp 88) rfl (by rfl) HS4 (by rfl) HQ3.out ?_
            intro vV149 V149 hTV149
            refine hK.out _ _ (HSP.out _ hTV149.below) (fun hS => ?_)
            clear hK
            try simp only [Act.put, List.setIfInBounds_toArray, List.set_cons_zero, List.set_cons_succ]
            refine wpAnyH_oneD (i := 13) rfl (by kernel_rfl) (fun K hK => ?_)
            refine hTV149.extB rfl (.tmp 89) (.tmp 91) rfl (by rfl) HS4 (by rfl) HQ2.out ?_
            intro vV150 V150 hTV150
            refine hK.out _ _ (HSP.out _ hTV150.below) (fun hS => ?_)
            clear hK
            try simp only [Act.put, List.setIfInBounds_toArray, List.set_cons_zero, List.set_cons_succ]
            obtain ⟨AA, ca, eA, _⟩ := own_sl hTV150.ownA
            obtain ⟨BB, cb, eB, _⟩ := own_sl hTV150.ownB
            rw [Q1.out] at eA
            rw [Q2.out] at eB
            subst eA eB
            refine wpAnyH_takeD (i := 14) (v := ?_) rfl (by kernel_rfl) (by kernel_rfl) (by kernel_rfl) (fun _ _ _ h => h) (Or.inl ⟨by kernel_rfl, ?_⟩) hS ?_
            rotate_left 1
            · (intro w' hSw; (try dsimp only at hSw); go_simp; try (with_reducible rfl))
            try simp only [Act.put, List.setIfInBounds_toArray, List.set_cons_zero, List.set_cons_succ]
            refine wpAnyH_oneD (i := 16) rfl (by kernel_rfl) (fun K hK => ?_)
            obtain ⟨_, _, _, _, eA, eB, hc, hE⟩ := hTV150.close
            clear eA eB
            obtain ⟨⟨x0, x1⟩, ⟨y0, y1⟩, hlt⟩ := blk2 hc
            go_simp
            refine hK.out _ _ (HSP.out _ (hE _ rfl).choose_spec.choose_spec.choose_spec.choose_spec.choose_spec.2.2.2.2.2.2) (fun hS => ?_)
            clear hK
            try simp only [Act.put, List.setIfInBounds_toArray, List.set_cons_zero, List.set_cons_succ]
            refine wpAnyH_done (by kernel_rfl) ?_ _
            go_wp2_with fail
            go_meet
            exact hE _ rfl
        case rest =>
          obtain ⟨lg, T1, f1, T2, f2, rfl, hl0, hl1, ht1, ht2, hlg, hbc⟩ := hcut
          have q1 : (([] ++ icells stem) ++ icells loop).length = n1 + n2 := by have := HLS.out; have := HLL.out; simp [icells]; omega
          have q2 : (([] ++ icells loop) ++ icells loop).length = n2 + n2 := by have := HLS.out; have := HLL.out; simp [icells]; omega
          have q3 : (([] ++ icells stem) ++ icells loop) = icells (stem ++ loop) := by simp [icells]
          have q4 : (([] ++ icells loop) ++ icells loop) = icells (loop ++ loop) := by simp [icells]
          rw [q1] at hl0 ht1
          rw [q3] at ht1
          rw [q2] at hl1 ht2
          rw [q4] at ht2
          have HT1 := Lib.hid ht1
          have HT2 := Lib.hid ht2
          have hbwc : Below wb.heap.size wb wc := hbw4.trans (hbc.mono hz4)
          have hzc := hbwc.size
          have HG := Lib.hid (hG1 wc hbwc)
          have HE := Lib.hid (hE1 wc hbwc)
          have hglc : w.heap.size < wc.heap.size := by omega
          have HL := Lib.hid (And.intro hl0 hl1)
          clear q1 q2 q3 q4 ht1 ht2 hl0 hl1 a0 a1 a2 a3 a4
          have c0 := (hbwc.cell (p := ⟨w.heap.size, 0, none⟩) hgb).trans hx0
          have c1 := (hbwc.cell (p := ⟨w.heap.size, 1, none⟩) hgb).trans hx1
          have c2 := (hbwc.cell (p := ⟨w.heap.size, 2, none⟩) hgb).trans hx2
          have HC := Lib.hid (And.intro c0 (And.intro c1 c2))
          go_wp2_with fail
          refine (fsome_of ai ae al ni ci ne ce nl cl G z (.slice As ns cs) wc wc.heap.size HG.out HZN.out (Nat.le_refl _) (by omega) (fun W hW => ffair_any ai ae al ni ci ne ce nl cl G sets As ns cs z W wc.heap.size (HG.out.below hW (Nat.le_refl _)) (HE.out.below hW (Nat.le_refl _)) HZ.out hW.size (by omega) 30 HR.out (by omega) (by omega))).mono ?_
          rw [HIN.out]
          rintro e w5 ⟨rfl, hb5⟩
          have hz5 := hb5.size
          clear c0 c1 c2
          have k0 := (hb5.cell (p := ⟨w.heap.size, 0, none⟩) hglc).trans HC.out.1
          have k1 := (hb5.cell (p := ⟨w.heap.size, 1, none⟩) hglc).trans HC.out.2.1
          have k2 := (hb5.cell (p := ⟨w.heap.size, 2, none⟩) hglc).trans HC.out.2.2
          have l0 := (hb5.cell (p := ⟨lg, 0, none⟩) hlg).trans HL.out.1
          have l1 := (hb5.cell (p := ⟨lg, 1, none⟩) hlg).trans HL.out.2
          go_wp2_with fail
          refine (fis_any ai ae al ni ci ne ce nl cl G sets (stem ++ loop) (loop ++ loop) As ns cs T1 T2 (n1 + n2) f1 (n2 + n2) f2 w5 wc.heap.size (HG.out.below hb5 (Nat.le_refl _)) (HE.out.below hb5 (Nat.le_refl _)) (HT1.out.below hb5 (Nat.le_refl _)) (HT2.out.below hb5 (Nat.le_refl _)) hz5 (by omega) (by omega) (fun l hl => by have := HR.out l hl; omega) (by omega) (by omega) (by omega)).mono ?_
          rw [HTW.out]
          rintro e w6 ⟨rfl, hb6⟩
          clear k0 k1 k2 l0 l1
          go_wp2_with fail
          refine (awakeF_any _).mono ?_
          rintro e w7 ⟨rfl, hb7⟩
          have HB7 := Lib.hid (hbb.trans ((hbwc.trans ((hb5.trans ((hb6.trans (hb7.mono hb6.size)).mono hz5)).mono hzc)).mono (by omega)))
          go_wp2
          go_ret
          exact ⟨rfl, HB7.out⟩
end
end Go.Proofs.Ytfpncpjdmgfkbaa
