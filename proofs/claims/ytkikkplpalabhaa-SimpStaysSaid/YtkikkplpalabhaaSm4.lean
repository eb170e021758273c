/- The walk of layer 26: both. -/
import Derived.Test.YtkikkplpalabhaaSm3
import Derived.Deep.RegionHeld3
import Derived.Test.YtkikkplpalabhaaScope
namespace Go.Proofs.Ytkikkplpalabhaa
open Go.RowKit

/-- What FAnd and FOr become, by what is asked of both parts. -/
def bothV (op x y : Int) (s o h1 h2 : Bool) (a b : List Nd) : List Nd :=
  if (x == noOf op) = true then [⟨noOf op, 0⟩] else if (y == noOf op) = true then [⟨noOf op, 0⟩] else if (x == yesOf op) = true then b else if (y == yesOf op) = true then a else if s = true then a
  else if o = true then [⟨noOf op, 0⟩] else if h1 = true then a else if h2 = true then b
  else if (x == 8) = true then (if (y == 8) = true then withL 8 (withL op (a.dropLast ++ b.dropLast)) else withL op (a ++ b)) else withL op (a ++ b)
theorem bothL_V (op : Int) (a b : List Nd) : bothL op a b = bothV op (opL a) (opL b) (decide (a = b)) (otherL a b) (hasL b (dualOf op) a) (hasL a (dualOf op) b) a b := by
  have ho : ∀ (p q : Prop) [Decidable p] [Decidable q] (u v : List Nd), (if p ∨ q then u else v) = if p then u else if q then u else v := by
    intro p q _ _ u v; by_cases hp : p <;> by_cases hq : q <;> simp [hp, hq]
  have ha : ∀ (p q : Prop) [Decidable p] [Decidable q] (u v : List Nd), (if p ∧ q then u else v) = if p then (if q then u else v) else v := by
    intro p q _ _ u v; by_cases hp : p <;> by_cases hq : q <;> simp [hp, hq]
  unfold bothL bothV
  simp only [ho, ha, beq_iff_eq, decide_eq_true_eq]
theorem form_keep {w w' : World} {B n c : Nat} {A : Option Addr} {l r : List Nd} (hA : Nb w A) (hr : r = l) (hs : Sl w B 2 A n c (ncells l)) (hn : n = l.length) (hB : B ≤ w.heap.size) (hb : Below w.heap.size w w') : FormPost w r (.returned (.slice A n c)) w' := by
  subst hr; subst hn
  exact ⟨A, c, rfl, (hs.below hb hB).up (Nat.le_trans hB hb.size), hA.below hb, hb⟩
theorem form_one {w wk : World} {r : List Nd} {op : Int} (hr : r = [⟨op, 0⟩]) (hb : Below w.heap.size w wk) : FormPost w r (.returned (.slice (some ⟨wk.heap.size, 0, none⟩) 1 1)) (wk.alloc (.cells #[.int .i64 op, .int .i64 0] 42)) := by
  subst hr
  refine ⟨_, 1, rfl, ⟨rfl, Nat.le_refl _, by unfold maxLen; simp, by simp, .inr ⟨wk.heap.size, 0, rfl, by simp, fun j u hu => ?_⟩⟩, fun a ha => by cases ha; exact ⟨_, heap_alloc_new wk _⟩, hb.alloc hb.size _⟩
  rw [cell_of_row _ _ _ _ _ (0, 0) (heap_alloc_new wk _), Nat.zero_add]
  simpa [ncells] using hu
theorem form_row {w w' : World} {n c : Nat} {A : Option Addr} {l r : List Nd} (hA : Nb w' A) (hr : r = l) (hn : n = l.length) (hs : Sl w' w'.heap.size 2 A n c (ncells l)) (hb : Below w.heap.size w w') : FormPost w r (.returned (.slice A n c)) w' := by
  subst hr; subst hn
  exact ⟨A, c, rfl, hs, hA, hb⟩
theorem ncells_dropLast {l : List Nd} {n : Nat} (h : l.length = n) : ncells l.dropLast = (ncells l).take ((n - 1) * 2) := by
  rw [List.dropLast_eq_take, ncells_take, h]
set_option maxHeartbeats 4000000 in
set_option maxRecDepth 100000 in
theorem both5_any (A A2 : Option Addr) (n c n2 c2 : Nat) (a b : List Nd) (w : World) (B B2 : Nat) (hs : Sl w B 2 A n c (ncells a)) (hs2 : Sl w B2 2 A2 n2 c2 (ncells b)) (hA : Nb w A) (hA2 : Nb w A2) (hn : n = a.length) (hn2 : n2 = b.length) (hne : 0 < n) (hne2 : 0 < n2) (hB : B ≤ w.heap.size) (hB2 : B2 ≤ w.heap.size)
    (hl : n + n2 ≤ 100000) (hk : KOk n (kids a ((n : Int) - 1))) (hk2 : KOk n2 (kids b ((n2 : Int) - 1))) :
    Calls Try.prog 115 #[.int .i64 5, .slice A n c, .slice A2 n2 c2] w (FormPost w (bothL 5 a b)) := by
  have hOa := fun (w' : World) (hb : Below w.heap.size w w') => fop_any A n c a w' B (hs.below hb hB) hn hne (by omega)
  have hOb := fun (w' : World) (hb : Below w.heap.size w w') => fop_any A2 n2 c2 b w' B2 (hs2.below hb hB2) hn2 hne2 (by omega)
  have hSa := fun (w' : World) (hb : Below w.heap.size w w') => fsame_any A A2 n c n2 c2 a b w' B B2 (hs.below hb hB) (hs2.below hb hB2) hn hn2 (by omega)
  have hOt := fun (w' : World) (hb : Below w.heap.size w w') => other_any A A2 n c n2 c2 a b w' B B2 (hs.below hb hB) (hs2.below hb hB2) hn hn2 (by omega) (by omega)
  have hH1 := fun (w' : World) (hb : Below w.heap.size w w') => has_any A2 A n2 c2 n c b a 6 w' B2 B (hs2.below hb hB2) (hs.below hb hB) hn2 hn hne2 (Nat.le_trans hB2 hb.size) (Nat.le_trans hB hb.size) (by omega) hk2
  have hH2 := fun (w' : World) (hb : Below w.heap.size w w') => has_any A A2 n c n2 c2 a b 6 w' B B2 (hs.below hb hB) (hs2.below hb hB2) hn hn2 hne (Nat.le_trans hB hb.size) (Nat.le_trans hB2 hb.size) (by omega) hk
  have hb0 : Below w.heap.size w (w.alloc (.cells #[.slice A n c, .slice A2 n2 c2] 66)) := (Below.refl _ _).alloc (Nat.le_refl _) _
  have hW := with_any _ 2 2 [a, b] 5 (w.alloc (.cells #[.slice A n c, .slice A2 n2 c2] 66)) (w.heap.size + 1) (sl2_two (heap_alloc_new w _) (Nat.lt_succ_self _) ((hs.below hb0 hB).up (by omega)) ((hs2.below hb0 hB2).up (by omega))) (by simp) (by simp [totF]; omega)
  rw [show [a, b].flatten = a ++ b by simp] at hW
  have hlen : (withL 5 (a ++ b)).length = n + n2 + 1 := by simp [withL]; omega
  have hV := bothL_V 5 a b
  rw [show dualOf 5 = 6 from rfl] at hV
  generalize opL a = x at *
  generalize opL b = y at *
  generalize decide (a = b) = s at *
  generalize otherL a b = o at *
  generalize hasL b 6 a = p at *
  generalize hasL a 6 b = q at *
  have HOa := Lib.hid hOa
  have HOb := Lib.hid hOb
  have HSa := Lib.hid hSa
  have HOt := Lib.hid hOt
  have HH1 := Lib.hid hH1
  have HH2 := Lib.hid hH2
  have HW := Lib.hid hW
  have HV := Lib.hid hV
  have HN := Lib.hid hn
  have HN2 := Lib.hid hn2
  have HL := Lib.hid hlen
  clear hOa hOb hSa hOt hH1 hH2 hW hV hn hn2 hlen
  have hcap := hs.cap
  have hcap2 := hs2.cap
  have hmax : c ≤ 9223372036854775807 := by have := hs.max; unfold maxLen at this; omega
  have hmax2 : c2 ≤ 9223372036854775807 := by have := hs2.max; unfold maxLen at this; omega
  go_enter Try.func115, Try.ntmps115
  go_wp2
  refine wp_scope_once 0 rfl ?_
  go_wp2_with fail
  refine Calls.mono HW.out ?_
  rintro e w1 ⟨A3, c3, rfl, hs3, hA3, hb1'⟩
  rw [HL.out] at hs3 ⊢
  have hb1 : Below w.heap.size w w1 := hb0.trans (hb1'.mono (by simp))
  clear hb1' hb0
  have hO3 : Below w1.heap.size w1 w1 := Below.refl _ _
  cases hx1 : (x == 2)
  rotate_left 1
  · have F1 := Lib.hid hx1
    go_wp2_with fail
    refine Calls.mono (HOa.out _ hb1) ?_
    rintro e w' ⟨rfl, rfl⟩
    go_wp2
    go_step3
    refine ⟨rfl, ?_⟩
    unfold JumpTo
    go_wp2
    rw [jump_ret]
    go_ret
    exact form_one (by rw [HV.out]; simp [bothV, noOf, F1.out]) hb1
  have F1 := Lib.hid hx1
  go_wp2_with fail
  refine Calls.mono (HOa.out _ hb1) ?_
  rintro e w' ⟨rfl, rfl⟩
  cases hy1 : (y == 2)
  rotate_left 1
  · have F2 := Lib.hid hy1
    go_wp2_with fail
    refine Calls.mono (HOb.out _ hb1) ?_
    rintro e w' ⟨rfl, rfl⟩
    go_wp2
    go_step3
    refine ⟨rfl, ?_⟩
    unfold JumpTo
    go_wp2
    rw [jump_ret]
    go_ret
    exact form_one (by rw [HV.out]; simp [bothV, noOf, F1.out, F2.out]) hb1
  have F2 := Lib.hid hy1
  go_wp2_with fail
  refine Calls.mono (HOb.out _ hb1) ?_
  rintro e w' ⟨rfl, rfl⟩
  cases hx2 : (x == 1)
  rotate_left 1
  · have F3 := Lib.hid hx2
    go_wp2_with fail
    refine Calls.mono (HOa.out _ hb1) ?_
    rintro e w' ⟨rfl, rfl⟩
    go_wp2
    go_step3
    refine ⟨rfl, ?_⟩
    unfold JumpTo
    go_wp2
    rw [jump_ret]
    go_ret
    exact form_keep hA2 (by rw [HV.out]; simp [bothV, noOf, yesOf, F1.out, F2.out, F3.out]) hs2 HN2.out hB2 hb1
  have F3 := Lib.hid hx2
  go_wp2_with fail
  refine Calls.mono (HOa.out _ hb1) ?_
  rintro e w' ⟨rfl, rfl⟩
  cases hy2 : (y == 1)
  rotate_left 1
  · have F4 := Lib.hid hy2
    go_wp2_with fail
    refine Calls.mono (HOb.out _ hb1) ?_
    rintro e w' ⟨rfl, rfl⟩
    go_wp2
    go_step3
    refine ⟨rfl, ?_⟩
    unfold JumpTo
    go_wp2
    rw [jump_ret]
    go_ret
    exact form_keep hA (by rw [HV.out]; simp [bothV, noOf, yesOf, F1.out, F2.out, F3.out, F4.out]) hs HN.out hB hb1
  have F4 := Lib.hid hy2
  go_wp2_with fail
  refine Calls.mono (HOb.out _ hb1) ?_
  rintro e w' ⟨rfl, rfl⟩
  cases s
  rotate_left 1
  ·
    go_wp2_with fail
    refine Calls.mono (HSa.out _ hb1) ?_
    rintro e w2 ⟨rfl, m, rfl⟩
    go_wp2
    go_step3
    refine ⟨rfl, ?_⟩
    unfold JumpTo
    go_wp2
    rw [jump_ret]
    go_ret
    exact form_keep hA (by rw [HV.out]; simp [bothV, noOf, yesOf, F1.out, F2.out, F3.out, F4.out]) hs HN.out hB (below_drewN hb1 m)
  go_wp2_with fail
  refine Calls.mono (HSa.out _ hb1) ?_
  rintro e w2 ⟨rfl, m, hw2⟩
  have hb2 : Below w.heap.size w w2 := by rw [hw2]; exact below_drewN hb1 m
  have hO3 : Below w1.heap.size w1 w2 := by rw [hw2]; exact below_drewN (Below.refl _ _) m
  clear hw2
  cases o
  rotate_left 1
  ·
    go_wp2_with fail
    refine Calls.mono (HOt.out _ hb2) ?_
    rintro e w' ⟨rfl, rfl⟩
    go_wp2
    go_step3
    refine ⟨rfl, ?_⟩
    unfold JumpTo
    go_wp2
    rw [jump_ret]
    go_ret
    exact form_one (by rw [HV.out]; simp [bothV, noOf, yesOf, F1.out, F2.out, F3.out, F4.out]) hb2
  go_wp2_with fail
  refine Calls.mono (HOt.out _ hb2) ?_
  rintro e w' ⟨rfl, rfl⟩
  cases p
  rotate_left 1
  ·
    go_wp2_with fail
    refine Calls.mono (HH1.out _ hb2) ?_
    rintro e w3 ⟨rfl, hb3⟩
    go_wp2
    go_step3
    refine ⟨rfl, ?_⟩
    unfold JumpTo
    go_wp2
    rw [jump_ret]
    go_ret
    exact form_keep hA (by rw [HV.out]; simp [bothV, noOf, yesOf, F1.out, F2.out, F3.out, F4.out]) hs HN.out hB (hb2.trans (hb3.mono hb2.size))
  go_wp2_with fail
  refine Calls.mono (HH1.out _ hb2) ?_
  rintro e w3 ⟨rfl, hb3'⟩
  have hb3 : Below w.heap.size w w3 := hb2.trans (hb3'.mono hb2.size)
  replace hO3 : Below w1.heap.size w1 w3 := hO3.trans (hb3'.mono hO3.size)
  clear hb3'
  cases q
  rotate_left 1
  ·
    go_wp2_with fail
    refine Calls.mono (HH2.out _ hb3) ?_
    rintro e w4 ⟨rfl, hb4⟩
    go_wp2
    go_step3
    refine ⟨rfl, ?_⟩
    unfold JumpTo
    go_wp2
    rw [jump_ret]
    go_ret
    exact form_keep hA2 (by rw [HV.out]; simp [bothV, noOf, yesOf, F1.out, F2.out, F3.out, F4.out]) hs2 HN2.out hB2 (hb3.trans (hb4.mono hb3.size))
  go_wp2_with fail
  refine Calls.mono (HH2.out _ hb3) ?_
  rintro e w4 ⟨rfl, hb4'⟩
  have hb4 : Below w.heap.size w w4 := hb3.trans (hb4'.mono hb3.size)
  replace hO3 : Below w1.heap.size w1 w4 := hO3.trans (hb4'.mono hO3.size)
  clear hb4'
  cases hx8 : (x == 8)
  · have F5 := Lib.hid hx8
    go_wp2_with fail
    refine Calls.mono (HOa.out _ hb4) ?_
    rintro e w' ⟨rfl, rfl⟩
    go_wp2
    go_step3
    go_wp2
    rw [jump_ret]
    go_ret
    exact form_row (hA3.below hO3) (by rw [HV.out]; simp [bothV, noOf, yesOf, F1.out, F2.out, F3.out, F4.out, F5.out]) HL.out.symm (hs3.below hO3 (Nat.le_refl _) |>.up hO3.size) hb4
  have F5 := Lib.hid hx8
  go_wp2_with fail
  refine Calls.mono (HOa.out _ hb4) ?_
  rintro e w' ⟨rfl, rfl⟩
  cases hy8 : (y == 8)
  · have F6 := Lib.hid hy8
    go_wp2_with fail
    refine Calls.mono (HOb.out _ hb4) ?_
    rintro e w' ⟨rfl, rfl⟩
    go_wp2
    go_step3
    go_wp2
    rw [jump_ret]
    go_ret
    exact form_row (hA3.below hO3) (by rw [HV.out]; simp [bothV, noOf, yesOf, F1.out, F2.out, F3.out, F4.out, F5.out, F6.out]) HL.out.symm (hs3.below hO3 (Nat.le_refl _) |>.up hO3.size) hb4
  have F6 := Lib.hid hy8
  go_wp2_with fail
  refine Calls.mono (HOb.out _ hb4) ?_
  rintro e w' ⟨rfl, rfl⟩
  go_wp2_with fail
  obtain ⟨m1, hm1⟩ : ∃ m, m = n - 1 := ⟨_, rfl⟩
  obtain ⟨m2, hm2⟩ : ∃ m, m = n2 - 1 := ⟨_, rfl⟩
  have t1 := (hs.below hb4 hB).take (k := m1) (by omega)
  have t2 := (hs2.below hb4 hB2).take (k := m2) (by omega)
  rw [hm1, ← ncells_dropLast HN.out.symm, ← hm1] at t1
  rw [hm2, ← ncells_dropLast HN2.out.symm, ← hm2] at t2
  have hz4 := hb4.size
  have hb5 : Below w4.heap.size w4 (w4.drew.alloc (.cells #[.slice A m1 c, .slice A2 m2 c2] 66)) := ((Below.refl _ _).drew).alloc (Nat.le_refl _) _
  have hb5' : Below w.heap.size w (w4.drew.alloc (.cells #[.slice A m1 c, .slice A2 m2 c2] 66)) := hb4.trans (hb5.mono hz4)
  have hW5 := with_any _ 2 2 [a.dropLast, b.dropLast] 5 (w4.drew.alloc (.cells #[.slice A m1 c, .slice A2 m2 c2] 66)) (w4.heap.size + 1) (sl2_two (heap_alloc_new w4.drew _) (Nat.lt_succ_self _) ((t1.below hb5 (by omega)).up (by omega)) ((t2.below hb5 (by omega)).up (by omega))) (by simp) (by have := HN.out; have := HN2.out; simp [totF]; omega)
  rw [show [a.dropLast, b.dropLast].flatten = a.dropLast ++ b.dropLast by simp] at hW5
  have hlen5 : (withL 5 (a.dropLast ++ b.dropLast)).length ≤ 200000 := by have := HN.out; have := HN2.out; simp [withL]; omega
  have hr8 : bothV 5 x y false false false false a b = withL 8 (withL 5 (a.dropLast ++ b.dropLast)) := by simp [bothV, noOf, yesOf, F1.out, F2.out, F3.out, F4.out, F5.out, F6.out]
  generalize withL 5 (a.dropLast ++ b.dropLast) = r5 at *
  have HW5 := Lib.hid hW5
  have HR8 := Lib.hid hr8
  have e1 : IntKind.i64.wrap ((n : Int) - 1) = (m1 : Int) := by rw [IntWalk.i64_in _ (by omega)]; omega
  have e2 : IntKind.i64.wrap ((n2 : Int) - 1) = (m2 : Int) := by rw [IntWalk.i64_in _ (by omega)]; omega
  have i2 : (m1 : Int) ≤ (c : Int) := by omega
  have i4 : (m2 : Int) ≤ (c2 : Int) := by omega
  clear hW5 t1 t2 hr8 hm1 hm2 F1 F2 F3 F4 F5 F6 HOa HOb HSa HOt HH1 HH2 HW
  go_region_held3 (fun _ => True) (trivial) (first | (go_at_call_of 58 w4.heap.size; refine Calls.mono HW5.out ?_; rintro e w6 ⟨A6, c6, rfl, hs6, hA6, hb6⟩; have hb6' := hb5'.trans (hb6.mono hb5'.size); have hb7 : Below w6.heap.size w6 (w6.alloc (.cells #[.slice A6 r5.length c6] 66)) := (Below.refl _ _).alloc (Nat.le_refl _) _; have hW7 := Lib.hid (with_any _ 1 1 [r5] 8 (w6.alloc (.cells #[.slice A6 r5.length c6] 66)) (w6.heap.size + 1) (sl2_one (heap_alloc_new w6 _) (Nat.lt_succ_self _) ((hs6.below hb7 (Nat.le_refl _)).up (by omega))) (by simp) (by simp [totF]; omega))) | (go_at_call 58; refine Calls.mono hW7.out ?_; rw [show [r5].flatten = r5 by simp]; rintro e w8 ⟨A8, c8, rfl, hs8, hA8, hb8⟩))
  clear e1 e2
  go_wp2
  go_step3
  go_wp2
  rw [jump_ret]
  go_ret
  exact form_row hA8 (by rw [HV.out, HR8.out]) rfl hs8 ((hb6'.alloc hb6'.size _).trans (hb8.mono (by have := hb6'.size; simp; omega)))
set_option maxHeartbeats 4000000 in
set_option maxRecDepth 100000 in
theorem both6_any (A A2 : Option Addr) (n c n2 c2 : Nat) (a b : List Nd) (w : World) (B B2 : Nat) (hs : Sl w B 2 A n c (ncells a)) (hs2 : Sl w B2 2 A2 n2 c2 (ncells b)) (hA : Nb w A) (hA2 : Nb w A2) (hn : n = a.length) (hn2 : n2 = b.length) (hne : 0 < n) (hne2 : 0 < n2) (hB : B ≤ w.heap.size) (hB2 : B2 ≤ w.heap.size)
    (hl : n + n2 ≤ 100000) (hk : KOk n (kids a ((n : Int) - 1))) (hk2 : KOk n2 (kids b ((n2 : Int) - 1))) :
    Calls Try.prog 115 #[.int .i64 6, .slice A n c, .slice A2 n2 c2] w (FormPost w (bothL 6 a b)) := by
  have hOa := fun (w' : World) (hb : Below w.heap.size w w') => fop_any A n c a w' B (hs.below hb hB) hn hne (by omega)
  have hOb := fun (w' : World) (hb : Below w.heap.size w w') => fop_any A2 n2 c2 b w' B2 (hs2.below hb hB2) hn2 hne2 (by omega)
  have hSa := fun (w' : World) (hb : Below w.heap.size w w') => fsame_any A A2 n c n2 c2 a b w' B B2 (hs.below hb hB) (hs2.below hb hB2) hn hn2 (by omega)
  have hOt := fun (w' : World) (hb : Below w.heap.size w w') => other_any A A2 n c n2 c2 a b w' B B2 (hs.below hb hB) (hs2.below hb hB2) hn hn2 (by omega) (by omega)
  have hH1 := fun (w' : World) (hb : Below w.heap.size w w') => has_any A2 A n2 c2 n c b a 5 w' B2 B (hs2.below hb hB2) (hs.below hb hB) hn2 hn hne2 (Nat.le_trans hB2 hb.size) (Nat.le_trans hB hb.size) (by omega) hk2
  have hH2 := fun (w' : World) (hb : Below w.heap.size w w') => has_any A A2 n c n2 c2 a b 5 w' B B2 (hs.below hb hB) (hs2.below hb hB2) hn hn2 hne (Nat.le_trans hB hb.size) (Nat.le_trans hB2 hb.size) (by omega) hk
  have hb0 : Below w.heap.size w (w.alloc (.cells #[.slice A n c, .slice A2 n2 c2] 66)) := (Below.refl _ _).alloc (Nat.le_refl _) _
  have hW := with_any _ 2 2 [a, b] 6 (w.alloc (.cells #[.slice A n c, .slice A2 n2 c2] 66)) (w.heap.size + 1) (sl2_two (heap_alloc_new w _) (Nat.lt_succ_self _) ((hs.below hb0 hB).up (by omega)) ((hs2.below hb0 hB2).up (by omega))) (by simp) (by simp [totF]; omega)
  rw [show [a, b].flatten = a ++ b by simp] at hW
  have hlen : (withL 6 (a ++ b)).length = n + n2 + 1 := by simp [withL]; omega
  have hV := bothL_V 6 a b
  rw [show dualOf 6 = 5 from rfl] at hV
  generalize opL a = x at *
  generalize opL b = y at *
  generalize decide (a = b) = s at *
  generalize otherL a b = o at *
  generalize hasL b 5 a = p at *
  generalize hasL a 5 b = q at *
  have HOa := Lib.hid hOa
  have HOb := Lib.hid hOb
  have HSa := Lib.hid hSa
  have HOt := Lib.hid hOt
  have HH1 := Lib.hid hH1
  have HH2 := Lib.hid hH2
  have HW := Lib.hid hW
  have HV := Lib.hid hV
  have HN := Lib.hid hn
  have HN2 := Lib.hid hn2
  have HL := Lib.hid hlen
  clear hOa hOb hSa hOt hH1 hH2 hW hV hn hn2 hlen
  have hcap := hs.cap
  have hcap2 := hs2.cap
  have hmax : c ≤ 9223372036854775807 := by have := hs.max; unfold maxLen at this; omega
  have hmax2 : c2 ≤ 9223372036854775807 := by have := hs2.max; unfold maxLen at this; omega
  go_enter Try.func115, Try.ntmps115
  go_wp2
  refine wp_scope_once 0 rfl ?_
  go_wp2_with fail
  refine Calls.mono HW.out ?_
  rintro e w1 ⟨A3, c3, rfl, hs3, hA3, hb1'⟩
  rw [HL.out] at hs3 ⊢
  have hb1 : Below w.heap.size w w1 := hb0.trans (hb1'.mono (by simp))
  clear hb1' hb0
  have hO3 : Below w1.heap.size w1 w1 := Below.refl _ _
  cases hx1 : (x == 1)
  rotate_left 1
  · have F1 := Lib.hid hx1
    go_wp2_with fail
    refine Calls.mono (HOa.out _ hb1) ?_
    rintro e w' ⟨rfl, rfl⟩
    go_wp2
    go_step3
    refine ⟨rfl, ?_⟩
    unfold JumpTo
    go_wp2
    rw [jump_ret]
    go_ret
    exact form_one (by rw [HV.out]; simp [bothV, noOf, F1.out]) hb1
  have F1 := Lib.hid hx1
  go_wp2_with fail
  refine Calls.mono (HOa.out _ hb1) ?_
  rintro e w' ⟨rfl, rfl⟩
  cases hy1 : (y == 1)
  rotate_left 1
  · have F2 := Lib.hid hy1
    go_wp2_with fail
    refine Calls.mono (HOb.out _ hb1) ?_
    rintro e w' ⟨rfl, rfl⟩
    go_wp2
    go_step3
    refine ⟨rfl, ?_⟩
    unfold JumpTo
    go_wp2
    rw [jump_ret]
    go_ret
    exact form_one (by rw [HV.out]; simp [bothV, noOf, F1.out, F2.out]) hb1
  have F2 := Lib.hid hy1
  go_wp2_with fail
  refine Calls.mono (HOb.out _ hb1) ?_
  rintro e w' ⟨rfl, rfl⟩
  cases hx2 : (x == 2)
  rotate_left 1
  · have F3 := Lib.hid hx2
    go_wp2_with fail
    refine Calls.mono (HOa.out _ hb1) ?_
    rintro e w' ⟨rfl, rfl⟩
    go_wp2
    go_step3
    refine ⟨rfl, ?_⟩
    unfold JumpTo
    go_wp2
    rw [jump_ret]
    go_ret
    exact form_keep hA2 (by rw [HV.out]; simp [bothV, noOf, yesOf, F1.out, F2.out, F3.out]) hs2 HN2.out hB2 hb1
  have F3 := Lib.hid hx2
  go_wp2_with fail
  refine Calls.mono (HOa.out _ hb1) ?_
  rintro e w' ⟨rfl, rfl⟩
  cases hy2 : (y == 2)
  rotate_left 1
  · have F4 := Lib.hid hy2
    go_wp2_with fail
    refine Calls.mono (HOb.out _ hb1) ?_
    rintro e w' ⟨rfl, rfl⟩
    go_wp2
    go_step3
    refine ⟨rfl, ?_⟩
    unfold JumpTo
    go_wp2
    rw [jump_ret]
    go_ret
    exact form_keep hA (by rw [HV.out]; simp [bothV, noOf, yesOf, F1.out, F2.out, F3.out, F4.out]) hs HN.out hB hb1
  have F4 := Lib.hid hy2
  go_wp2_with fail
  refine Calls.mono (HOb.out _ hb1) ?_
  rintro e w' ⟨rfl, rfl⟩
  cases s
  rotate_left 1
  ·
    go_wp2_with fail
    refine Calls.mono (HSa.out _ hb1) ?_
    rintro e w2 ⟨rfl, m, rfl⟩
    go_wp2
    go_step3
    refine ⟨rfl, ?_⟩
    unfold JumpTo
    go_wp2
    rw [jump_ret]
    go_ret
    exact form_keep hA (by rw [HV.out]; simp [bothV, noOf, yesOf, F1.out, F2.out, F3.out, F4.out]) hs HN.out hB (below_drewN hb1 m)
  go_wp2_with fail
  refine Calls.mono (HSa.out _ hb1) ?_
  rintro e w2 ⟨rfl, m, hw2⟩
  have hb2 : Below w.heap.size w w2 := by rw [hw2]; exact below_drewN hb1 m
  have hO3 : Below w1.heap.size w1 w2 := by rw [hw2]; exact below_drewN (Below.refl _ _) m
  clear hw2
  cases o
  rotate_left 1
  ·
    go_wp2_with fail
    refine Calls.mono (HOt.out _ hb2) ?_
    rintro e w' ⟨rfl, rfl⟩
    go_wp2
    go_step3
    refine ⟨rfl, ?_⟩
    unfold JumpTo
    go_wp2
    rw [jump_ret]
    go_ret
    exact form_one (by rw [HV.out]; simp [bothV, noOf, yesOf, F1.out, F2.out, F3.out, F4.out]) hb2
  go_wp2_with fail
  refine Calls.mono (HOt.out _ hb2) ?_
  rintro e w' ⟨rfl, rfl⟩
  cases p
  rotate_left 1
  ·
    go_wp2_with fail
    refine Calls.mono (HH1.out _ hb2) ?_
    rintro e w3 ⟨rfl, hb3⟩
    go_wp2
    go_step3
    refine ⟨rfl, ?_⟩
    unfold JumpTo
    go_wp2
    rw [jump_ret]
    go_ret
    exact form_keep hA (by rw [HV.out]; simp [bothV, noOf, yesOf, F1.out, F2.out, F3.out, F4.out]) hs HN.out hB (hb2.trans (hb3.mono hb2.size))
  go_wp2_with fail
  refine Calls.mono (HH1.out _ hb2) ?_
  rintro e w3 ⟨rfl, hb3'⟩
  have hb3 : Below w.heap.size w w3 := hb2.trans (hb3'.mono hb2.size)
  replace hO3 : Below w1.heap.size w1 w3 := hO3.trans (hb3'.mono hO3.size)
  clear hb3'
  cases q
  rotate_left 1
  ·
    go_wp2_with fail
    refine Calls.mono (HH2.out _ hb3) ?_
    rintro e w4 ⟨rfl, hb4⟩
    go_wp2
    go_step3
    refine ⟨rfl, ?_⟩
    unfold JumpTo
    go_wp2
    rw [jump_ret]
    go_ret
    exact form_keep hA2 (by rw [HV.out]; simp [bothV, noOf, yesOf, F1.out, F2.out, F3.out, F4.out]) hs2 HN2.out hB2 (hb3.trans (hb4.mono hb3.size))
  go_wp2_with fail
  refine Calls.mono (HH2.out _ hb3) ?_
  rintro e w4 ⟨rfl, hb4'⟩
  have hb4 : Below w.heap.size w w4 := hb3.trans (hb4'.mono hb3.size)
  replace hO3 : Below w1.heap.size w1 w4 := hO3.trans (hb4'.mono hO3.size)
  clear hb4'
  cases hx8 : (x == 8)
  · have F5 := Lib.hid hx8
    go_wp2_with fail
    refine Calls.mono (HOa.out _ hb4) ?_
    rintro e w' ⟨rfl, rfl⟩
    go_wp2
    go_step3
    go_wp2
    rw [jump_ret]
    go_ret
    exact form_row (hA3.below hO3) (by rw [HV.out]; simp [bothV, noOf, yesOf, F1.out, F2.out, F3.out, F4.out, F5.out]) HL.out.symm (hs3.below hO3 (Nat.le_refl _) |>.up hO3.size) hb4
  have F5 := Lib.hid hx8
  go_wp2_with fail
  refine Calls.mono (HOa.out _ hb4) ?_
  rintro e w' ⟨rfl, rfl⟩
  cases hy8 : (y == 8)
  · have F6 := Lib.hid hy8
    go_wp2_with fail
    refine Calls.mono (HOb.out _ hb4) ?_
    rintro e w' ⟨rfl, rfl⟩
    go_wp2
    go_step3
    go_wp2
    rw [jump_ret]
    go_ret
    exact form_row (hA3.below hO3) (by rw [HV.out]; simp [bothV, noOf, yesOf, F1.out, F2.out, F3.out, F4.out, F5.out, F6.out]) HL.out.symm (hs3.below hO3 (Nat.le_refl _) |>.up hO3.size) hb4
  have F6 := Lib.hid hy8
  go_wp2_with fail
  refine Calls.mono (HOb.out _ hb4) ?_
  rintro e w' ⟨rfl, rfl⟩
  go_wp2_with fail
  obtain ⟨m1, hm1⟩ : ∃ m, m = n - 1 := ⟨_, rfl⟩
  obtain ⟨m2, hm2⟩ : ∃ m, m = n2 - 1 := ⟨_, rfl⟩
  have t1 := (hs.below hb4 hB).take (k := m1) (by omega)
  have t2 := (hs2.below hb4 hB2).take (k := m2) (by omega)
  rw [hm1, ← ncells_dropLast HN.out.symm, ← hm1] at t1
  rw [hm2, ← ncells_dropLast HN2.out.symm, ← hm2] at t2
  have hz4 := hb4.size
  have hb5 : Below w4.heap.size w4 (w4.drew.alloc (.cells #[.slice A m1 c, .slice A2 m2 c2] 66)) := ((Below.refl _ _).drew).alloc (Nat.le_refl _) _
  have hb5' : Below w.heap.size w (w4.drew.alloc (.cells #[.slice A m1 c, .slice A2 m2 c2] 66)) := hb4.trans (hb5.mono hz4)
  have hW5 := with_any _ 2 2 [a.dropLast, b.dropLast] 6 (w4.drew.alloc (.cells #[.slice A m1 c, .slice A2 m2 c2] 66)) (w4.heap.size + 1) (sl2_two (heap_alloc_new w4.drew _) (Nat.lt_succ_self _) ((t1.below hb5 (by omega)).up (by omega)) ((t2.below hb5 (by omega)).up (by omega))) (by simp) (by have := HN.out; have := HN2.out; simp [totF]; omega)
  rw [show [a.dropLast, b.dropLast].flatten = a.dropLast ++ b.dropLast by simp] at hW5
  have hlen5 : (withL 6 (a.dropLast ++ b.dropLast)).length ≤ 200000 := by have := HN.out; have := HN2.out; simp [withL]; omega
  have hr8 : bothV 6 x y false false false false a b = withL 8 (withL 6 (a.dropLast ++ b.dropLast)) := by simp [bothV, noOf, yesOf, F1.out, F2.out, F3.out, F4.out, F5.out, F6.out]
  generalize withL 6 (a.dropLast ++ b.dropLast) = r5 at *
  have HW5 := Lib.hid hW5
  have HR8 := Lib.hid hr8
  have e1 : IntKind.i64.wrap ((n : Int) - 1) = (m1 : Int) := by rw [IntWalk.i64_in _ (by omega)]; omega
  have e2 : IntKind.i64.wrap ((n2 : Int) - 1) = (m2 : Int) := by rw [IntWalk.i64_in _ (by omega)]; omega
  have i2 : (m1 : Int) ≤ (c : Int) := by omega
  have i4 : (m2 : Int) ≤ (c2 : Int) := by omega
  clear hW5 t1 t2 hr8 hm1 hm2 F1 F2 F3 F4 F5 F6 HOa HOb HSa HOt HH1 HH2 HW
  go_region_held3 (fun _ => True) (trivial) (first | (go_at_call_of 58 w4.heap.size; refine Calls.mono HW5.out ?_; rintro e w6 ⟨A6, c6, rfl, hs6, hA6, hb6⟩; have hb6' := hb5'.trans (hb6.mono hb5'.size); have hb7 : Below w6.heap.size w6 (w6.alloc (.cells #[.slice A6 r5.length c6] 66)) := (Below.refl _ _).alloc (Nat.le_refl _) _; have hW7 := Lib.hid (with_any _ 1 1 [r5] 8 (w6.alloc (.cells #[.slice A6 r5.length c6] 66)) (w6.heap.size + 1) (sl2_one (heap_alloc_new w6 _) (Nat.lt_succ_self _) ((hs6.below hb7 (Nat.le_refl _)).up (by omega))) (by simp) (by simp [totF]; omega))) | (go_at_call 58; refine Calls.mono hW7.out ?_; rw [show [r5].flatten = r5 by simp]; rintro e w8 ⟨A8, c8, rfl, hs8, hA8, hb8⟩))
  clear e1 e2
  go_wp2
  go_step3
  go_wp2
  rw [jump_ret]
  go_ret
  exact form_row hA8 (by rw [HV.out, HR8.out]) rfl hs8 ((hb6'.alloc hb6'.size _).trans (hb8.mono (by have := hb6'.size; simp; omega)))
end Go.Proofs.Ytkikkplpalabhaa
