/- The walks of layer 26: last, rules. -/
import Derived.Test.YtkikkplpalabhaaSm4
namespace Go.Proofs.Ytkikkplpalabhaa
open Go.RowKit

def lastV (op x y : Int) (u s q : Bool) (a b : List Nd) : List Nd :=
  if u = true then b else if (x == easyOf op) = true then b else if s = true then b else if (y == op) = true then (if q = true then b else withL op (a ++ b)) else withL op (a ++ b)
theorem lastL_V (op : Int) (a b : List Nd) : lastL op a b = lastV op (opL a) (opL b) (bareL b) (decide (a = b)) (decide ((partsL b).1 = a)) a b := by
  have ho : ∀ (p q : Prop) [Decidable p] [Decidable q] (u v : List Nd), (if p ∨ q then u else v) = if p then u else if q then u else v := by
    intro p q _ _ u v; by_cases hp : p <;> by_cases hq : q <;> simp [hp, hq]
  have ha : ∀ (p q : Prop) [Decidable p] [Decidable q] (u v : List Nd), (if p ∧ q then u else v) = if p then (if q then u else v) else v := by
    intro p q _ _ u v; by_cases hp : p <;> by_cases hq : q <;> simp [hp, hq]
  unfold lastL lastV
  simp only [ho, ha, beq_iff_eq, decide_eq_true_eq]
set_option maxHeartbeats 4000000 in
set_option maxRecDepth 100000 in
theorem last9_any (A A2 : Option Addr) (n c n2 c2 : Nat) (a b : List Nd) (w : World) (B B2 : Nat) (hs : Sl w B 2 A n c (ncells a)) (hs2 : Sl w B2 2 A2 n2 c2 (ncells b)) (_hA : Nb w A) (hA2 : Nb w A2) (hn : n = a.length) (hn2 : n2 = b.length) (hne : 0 < n) (hne2 : 0 < n2) (hB : B ≤ w.heap.size) (hB2 : B2 ≤ w.heap.size)
    (hl : n + n2 ≤ 100000) (hk2 : KOk n2 (kids b ((n2 : Int) - 1))) :
    Calls Try.prog 116 #[.int .i64 9, .slice A n c, .slice A2 n2 c2] w (FormPost w (lastL 9 a b)) := by
  have hOa := fun (w' : World) (hb : Below w.heap.size w w') => fop_any A n c a w' B (hs.below hb hB) hn hne (by omega)
  have hOb := fun (w' : World) (hb : Below w.heap.size w w') => fop_any A2 n2 c2 b w' B2 (hs2.below hb hB2) hn2 hne2 (by omega)
  have hSa := fun (w' : World) (hb : Below w.heap.size w w') => fsame_any A A2 n c n2 c2 a b w' B B2 (hs.below hb hB) (hs2.below hb hB2) hn hn2 (by omega)
  have hBa := fun (w' : World) (hb : Below w.heap.size w w') => bare_any A2 n2 c2 b w' B2 (hs2.below hb hB2) hn2 hne2 (by omega)
  have hPb := fun (w' : World) (hb : Below w.heap.size w w') => parts_any A2 n2 c2 b w' B2 (hs2.below hb hB2) hn2 hne2 (Nat.le_trans hB2 hb.size) (by omega) hk2
  have hSl := fun (w' : World) (hb : Below w.heap.size w w') (A3 : Option Addr) (c3 : Nat) (l : List Nd) (hs3 : Sl w' w'.heap.size 2 A3 l.length c3 (ncells l)) (hl3 : l.length ≤ 1000000000) => fsame_any A3 A l.length c3 n c l a w' _ B hs3 (hs.below hb hB) rfl hn hl3
  have hpl : (partsL b).1.length ≤ 1000000000 := by
    unfold partsL
    split
    · simp
    split <;> (simp only [List.length_take]; omega)
  have hlen : (withL 9 (a ++ b)).length = n + n2 + 1 := by simp [withL]; omega
  have hV := lastL_V 9 a b
  generalize bareL b = u at *
  generalize opL a = x at *
  generalize opL b = y at *
  generalize decide (a = b) = s at *
  generalize partsL b = p at *
  generalize hq : decide (p.1 = a) = q at *
  have HQ := Lib.hid hq
  have HOa := Lib.hid hOa
  have HOb := Lib.hid hOb
  have HSa := Lib.hid hSa
  have HBa := Lib.hid hBa
  have HPb := Lib.hid hPb
  have HSl := Lib.hid hSl
  have HV := Lib.hid hV
  have HN := Lib.hid hn
  have HN2 := Lib.hid hn2
  have HL := Lib.hid hlen
  clear hOa hOb hSa hBa hPb hSl hV hn hn2 hlen hq
  have hb0 : Below w.heap.size w w := Below.refl _ _
  go_enter Try.func116, Try.ntmps116
  cases u
  rotate_left 1
  ·
    go_wp2_with fail
    refine Calls.mono (HBa.out _ hb0) ?_
    rintro e w' ⟨rfl, rfl⟩
    go_wp2
    go_ret
    exact form_keep hA2 (by rw [HV.out]; simp [lastV]) hs2 HN2.out hB2 hb0
  go_wp2_with fail
  refine Calls.mono (HBa.out _ hb0) ?_
  rintro e w' ⟨rfl, rfl⟩
  cases hx1 : (x == 2)
  rotate_left 1
  · have F1 := Lib.hid hx1
    go_wp2_with fail
    refine Calls.mono (HOa.out _ hb0) ?_
    rintro e w' ⟨rfl, rfl⟩
    go_wp2
    go_ret
    exact form_keep hA2 (by rw [HV.out]; simp [lastV, easyOf, F1.out]) hs2 HN2.out hB2 hb0
  have F1 := Lib.hid hx1
  go_wp2_with fail
  refine Calls.mono (HOa.out _ hb0) ?_
  rintro e w' ⟨rfl, rfl⟩
  cases s
  rotate_left 1
  ·
    go_wp2_with fail
    refine Calls.mono (HSa.out _ hb0) ?_
    rintro e w2 ⟨rfl, m, rfl⟩
    go_wp2
    go_ret
    exact form_keep hA2 (by rw [HV.out]; simp [lastV, easyOf, F1.out]) hs2 HN2.out hB2 (below_drewN hb0 m)
  go_wp2_with fail
  refine Calls.mono (HSa.out _ hb0) ?_
  rintro e w2 ⟨rfl, m, hw2⟩
  have hb2 : Below w.heap.size w w2 := by rw [hw2]; exact below_drewN hb0 m
  clear hw2
  cases hy : (y == 9)
  · have F2 := Lib.hid hy
    go_wp2_with fail
    refine Calls.mono (HOb.out _ hb2) ?_
    rintro e w' ⟨rfl, rfl⟩
    have hz := hb2.size
    go_wp2_with fail
    have hbq : Below w.heap.size w (_ : World) := hb2.alloc hz (.cells #[.slice A n c, .slice A2 n2 c2] 66)
    have hW := with_any _ 2 2 [a, b] 9 _ _ (sl2_two (heap_alloc_new _ _) (Nat.lt_succ_self _) ((hs.below hbq hB).up (by omega)) ((hs2.below hbq hB2).up (by omega))) (by simp) (by have := HN.out; have := HN2.out; simp [totF]; omega)
    rw [show [a, b].flatten = a ++ b by simp] at hW
    refine Calls.mono hW ?_
    clear hW
    rintro e w9 ⟨A9, c9, rfl, hs9, hA9, hb9⟩
    rw [HL.out] at hs9 ⊢
    go_wp2
    go_ret
    exact form_row hA9 (by rw [HV.out]; simp [lastV, easyOf, F1.out, F2.out]) HL.out.symm hs9 (hbq.trans (hb9.mono (by simp; omega)))
  have F2 := Lib.hid hy
  go_wp2_with fail
  refine Calls.mono (HOb.out _ hb2) ?_
  rintro e w' ⟨rfl, rfl⟩
  go_wp2_with fail
  refine Calls.mono (HPb.out _ hb2) ?_
  rintro e w3 ⟨A3, c3, A4, c4, rfl, hs3, hs4, hb3'⟩
  have hb3 : Below w.heap.size w w3 := hb2.trans (hb3'.mono hb2.size)
  clear hb3' hs4
  have hS3 := HSl.out _ hb3 _ _ _ hs3 hpl
  rw [HQ.out] at hS3
  have HS3 := Lib.hid hS3
  clear hS3
  cases q
  rotate_left 1
  ·
    go_wp2_with fail
    refine Calls.mono HS3.out ?_
    rintro e w4 ⟨rfl, m4, hw4⟩
    have hb4 : Below w.heap.size w w4 := by rw [hw4]; exact below_drewN hb3 m4
    clear hw4
    go_wp2
    go_ret
    exact form_keep hA2 (by rw [HV.out]; simp [lastV, easyOf, F1.out, F2.out]) hs2 HN2.out hB2 hb4
  go_wp2_with fail
  refine Calls.mono HS3.out ?_
  rintro e w4 ⟨rfl, m4, hw4⟩
  have hb4 : Below w.heap.size w w4 := by rw [hw4]; exact below_drewN hb3 m4
  clear hw4
  have hz := hb4.size
  go_wp2_with fail
  have hbq : Below w.heap.size w (_ : World) := hb4.alloc hz (.cells #[.slice A n c, .slice A2 n2 c2] 66)
  have hW := with_any _ 2 2 [a, b] 9 _ _ (sl2_two (heap_alloc_new _ _) (Nat.lt_succ_self _) ((hs.below hbq hB).up (by omega)) ((hs2.below hbq hB2).up (by omega))) (by simp) (by have := HN.out; have := HN2.out; simp [totF]; omega)
  rw [show [a, b].flatten = a ++ b by simp] at hW
  refine Calls.mono hW ?_
  clear hW
  rintro e w9 ⟨A9, c9, rfl, hs9, hA9, hb9⟩
  rw [HL.out] at hs9 ⊢
  go_wp2
  go_ret
  exact form_row hA9 (by rw [HV.out]; simp [lastV, easyOf, F1.out, F2.out]) HL.out.symm hs9 (hbq.trans (hb9.mono (by simp; omega)))
set_option maxHeartbeats 4000000 in
set_option maxRecDepth 100000 in
theorem last10_any (A A2 : Option Addr) (n c n2 c2 : Nat) (a b : List Nd) (w : World) (B B2 : Nat) (hs : Sl w B 2 A n c (ncells a)) (hs2 : Sl w B2 2 A2 n2 c2 (ncells b)) (_hA : Nb w A) (hA2 : Nb w A2) (hn : n = a.length) (hn2 : n2 = b.length) (hne : 0 < n) (hne2 : 0 < n2) (hB : B ≤ w.heap.size) (hB2 : B2 ≤ w.heap.size)
    (hl : n + n2 ≤ 100000) (hk2 : KOk n2 (kids b ((n2 : Int) - 1))) :
    Calls Try.prog 116 #[.int .i64 10, .slice A n c, .slice A2 n2 c2] w (FormPost w (lastL 10 a b)) := by
  have hOa := fun (w' : World) (hb : Below w.heap.size w w') => fop_any A n c a w' B (hs.below hb hB) hn hne (by omega)
  have hOb := fun (w' : World) (hb : Below w.heap.size w w') => fop_any A2 n2 c2 b w' B2 (hs2.below hb hB2) hn2 hne2 (by omega)
  have hSa := fun (w' : World) (hb : Below w.heap.size w w') => fsame_any A A2 n c n2 c2 a b w' B B2 (hs.below hb hB) (hs2.below hb hB2) hn hn2 (by omega)
  have hBa := fun (w' : World) (hb : Below w.heap.size w w') => bare_any A2 n2 c2 b w' B2 (hs2.below hb hB2) hn2 hne2 (by omega)
  have hPb := fun (w' : World) (hb : Below w.heap.size w w') => parts_any A2 n2 c2 b w' B2 (hs2.below hb hB2) hn2 hne2 (Nat.le_trans hB2 hb.size) (by omega) hk2
  have hSl := fun (w' : World) (hb : Below w.heap.size w w') (A3 : Option Addr) (c3 : Nat) (l : List Nd) (hs3 : Sl w' w'.heap.size 2 A3 l.length c3 (ncells l)) (hl3 : l.length ≤ 1000000000) => fsame_any A3 A l.length c3 n c l a w' _ B hs3 (hs.below hb hB) rfl hn hl3
  have hpl : (partsL b).1.length ≤ 1000000000 := by
    unfold partsL
    split
    · simp
    split <;> (simp only [List.length_take]; omega)
  have hlen : (withL 10 (a ++ b)).length = n + n2 + 1 := by simp [withL]; omega
  have hV := lastL_V 10 a b
  generalize bareL b = u at *
  generalize opL a = x at *
  generalize opL b = y at *
  generalize decide (a = b) = s at *
  generalize partsL b = p at *
  generalize hq : decide (p.1 = a) = q at *
  have HQ := Lib.hid hq
  have HOa := Lib.hid hOa
  have HOb := Lib.hid hOb
  have HSa := Lib.hid hSa
  have HBa := Lib.hid hBa
  have HPb := Lib.hid hPb
  have HSl := Lib.hid hSl
  have HV := Lib.hid hV
  have HN := Lib.hid hn
  have HN2 := Lib.hid hn2
  have HL := Lib.hid hlen
  clear hOa hOb hSa hBa hPb hSl hV hn hn2 hlen hq
  have hb0 : Below w.heap.size w w := Below.refl _ _
  go_enter Try.func116, Try.ntmps116
  cases u
  rotate_left 1
  ·
    go_wp2_with fail
    refine Calls.mono (HBa.out _ hb0) ?_
    rintro e w' ⟨rfl, rfl⟩
    go_wp2
    go_ret
    exact form_keep hA2 (by rw [HV.out]; simp [lastV]) hs2 HN2.out hB2 hb0
  go_wp2_with fail
  refine Calls.mono (HBa.out _ hb0) ?_
  rintro e w' ⟨rfl, rfl⟩
  cases hx1 : (x == 1)
  rotate_left 1
  · have F1 := Lib.hid hx1
    go_wp2_with fail
    refine Calls.mono (HOa.out _ hb0) ?_
    rintro e w' ⟨rfl, rfl⟩
    go_wp2
    go_ret
    exact form_keep hA2 (by rw [HV.out]; simp [lastV, easyOf, F1.out]) hs2 HN2.out hB2 hb0
  have F1 := Lib.hid hx1
  go_wp2_with fail
  refine Calls.mono (HOa.out _ hb0) ?_
  rintro e w' ⟨rfl, rfl⟩
  cases s
  rotate_left 1
  ·
    go_wp2_with fail
    refine Calls.mono (HSa.out _ hb0) ?_
    rintro e w2 ⟨rfl, m, rfl⟩
    go_wp2
    go_ret
    exact form_keep hA2 (by rw [HV.out]; simp [lastV, easyOf, F1.out]) hs2 HN2.out hB2 (below_drewN hb0 m)
  go_wp2_with fail
  refine Calls.mono (HSa.out _ hb0) ?_
  rintro e w2 ⟨rfl, m, hw2⟩
  have hb2 : Below w.heap.size w w2 := by rw [hw2]; exact below_drewN hb0 m
  clear hw2
  cases hy : (y == 10)
  · have F2 := Lib.hid hy
    go_wp2_with fail
    refine Calls.mono (HOb.out _ hb2) ?_
    rintro e w' ⟨rfl, rfl⟩
    have hz := hb2.size
    go_wp2_with fail
    have hbq : Below w.heap.size w (_ : World) := hb2.alloc hz (.cells #[.slice A n c, .slice A2 n2 c2] 66)
    have hW := with_any _ 2 2 [a, b] 10 _ _ (sl2_two (heap_alloc_new _ _) (Nat.lt_succ_self _) ((hs.below hbq hB).up (by omega)) ((hs2.below hbq hB2).up (by omega))) (by simp) (by have := HN.out; have := HN2.out; simp [totF]; omega)
    rw [show [a, b].flatten = a ++ b by simp] at hW
    refine Calls.mono hW ?_
    clear hW
    rintro e w9 ⟨A9, c9, rfl, hs9, hA9, hb9⟩
    rw [HL.out] at hs9 ⊢
    go_wp2
    go_ret
    exact form_row hA9 (by rw [HV.out]; simp [lastV, easyOf, F1.out, F2.out]) HL.out.symm hs9 (hbq.trans (hb9.mono (by simp; omega)))
  have F2 := Lib.hid hy
  go_wp2_with fail
  refine Calls.mono (HOb.out _ hb2) ?_
  rintro e w' ⟨rfl, rfl⟩
  go_wp2_with fail
  refine Calls.mono (HPb.out _ hb2) ?_
  rintro e w3 ⟨A3, c3, A4, c4, rfl, hs3, hs4, hb3'⟩
  have hb3 : Below w.heap.size w w3 := hb2.trans (hb3'.mono hb2.size)
  clear hb3' hs4
  have hS3 := HSl.out _ hb3 _ _ _ hs3 hpl
  rw [HQ.out] at hS3
  have HS3 := Lib.hid hS3
  clear hS3
  cases q
  rotate_left 1
  ·
    go_wp2_with fail
    refine Calls.mono HS3.out ?_
    rintro e w4 ⟨rfl, m4, hw4⟩
    have hb4 : Below w.heap.size w w4 := by rw [hw4]; exact below_drewN hb3 m4
    clear hw4
    go_wp2
    go_ret
    exact form_keep hA2 (by rw [HV.out]; simp [lastV, easyOf, F1.out, F2.out]) hs2 HN2.out hB2 hb4
  go_wp2_with fail
  refine Calls.mono HS3.out ?_
  rintro e w4 ⟨rfl, m4, hw4⟩
  have hb4 : Below w.heap.size w w4 := by rw [hw4]; exact below_drewN hb3 m4
  clear hw4
  have hz := hb4.size
  go_wp2_with fail
  have hbq : Below w.heap.size w (_ : World) := hb4.alloc hz (.cells #[.slice A n c, .slice A2 n2 c2] 66)
  have hW := with_any _ 2 2 [a, b] 10 _ _ (sl2_two (heap_alloc_new _ _) (Nat.lt_succ_self _) ((hs.below hbq hB).up (by omega)) ((hs2.below hbq hB2).up (by omega))) (by simp) (by have := HN.out; have := HN2.out; simp [totF]; omega)
  rw [show [a, b].flatten = a ++ b by simp] at hW
  refine Calls.mono hW ?_
  clear hW
  rintro e w9 ⟨A9, c9, rfl, hs9, hA9, hb9⟩
  rw [HL.out] at hs9 ⊢
  go_wp2
  go_ret
  exact form_row hA9 (by rw [HV.out]; simp [lastV, easyOf, F1.out, F2.out]) HL.out.symm hs9 (hbq.trans (hb9.mono (by simp; omega)))
/-- The rules' block. -/
def RulesAt (g : Nat) (w : World) : Prop := w.heap[g]? = some (.cells #[.int .i64 5, .func (.func 115) #[] #[], .int .i64 6, .func (.func 115) #[] #[], .int .i64 9, .func (.func 116) #[] #[], .int .i64 10, .func (.func 116) #[] #[]] 91 (0, 0))
theorem rules_any (w : World) : Calls Try.prog 87 #[] w fun e w' => e = .returned (.slice (some ⟨w.heap.size, 0, none⟩) 4 4) ∧ RulesAt w.heap.size w' ∧ Below w.heap.size w w' := by
  go_enter Try.func87, Try.ntmps87
  go_wp2
  go_ret
  exact ⟨rfl, heap_alloc_new w _, (Below.refl _ _).alloc (Nat.le_refl _) _⟩
end Go.Proofs.Ytkikkplpalabhaa
