/- The walk of layer 26: two. -/
import Derived.Test.YtkikkplpalabhaaSm5
import Derived.LoopN
import Derived.Laws.EntriesVeiled
namespace Go.Proofs.Ytkikkplpalabhaa
open Go.RowKit

theorem cells8 {w : World} {g : Nat} (h : RulesAt g w) : g < w.heap.size ∧ w.cell? ⟨g, 0, none⟩ = some (.int .i64 5) ∧ w.cell? ⟨g, 1, none⟩ = some (.func (.func 115) #[] #[]) ∧ w.cell? ⟨g, 2, none⟩ = some (.int .i64 6) ∧ w.cell? ⟨g, 3, none⟩ = some (.func (.func 115) #[] #[]) ∧
    w.cell? ⟨g, 4, none⟩ = some (.int .i64 9) ∧ w.cell? ⟨g, 5, none⟩ = some (.func (.func 116) #[] #[]) ∧ w.cell? ⟨g, 6, none⟩ = some (.int .i64 10) ∧ w.cell? ⟨g, 7, none⟩ = some (.func (.func 116) #[] #[]) := by
  refine ⟨lt_of_block h, ?_, ?_, ?_, ?_, ?_, ?_, ?_, ?_⟩ <;> (rw [cell_of_row w g _ _ _ (0, 0) h]; rfl)
set_option maxHeartbeats 4000000 in
theorem two5_any (A A2 : Option Addr) (n c n2 c2 : Nat) (a b : List Nd) (w : World) (B B2 : Nat) (hs : Sl w B 2 A n c (ncells a)) (hs2 : Sl w B2 2 A2 n2 c2 (ncells b)) (hA : Nb w A) (hA2 : Nb w A2) (hn : n = a.length) (hn2 : n2 = b.length) (hne : 0 < n) (hne2 : 0 < n2) (hB : B ≤ w.heap.size) (hB2 : B2 ≤ w.heap.size)
    (hl : n + n2 ≤ 100000) (hk : KOk n (kids a ((n : Int) - 1))) (hk2 : KOk n2 (kids b ((n2 : Int) - 1))) :
    Calls Try.prog 60 #[.int .i64 5, .slice A n c, .slice A2 n2 c2] w (FormPost w (twoL 5 a b)) := by
  have hF := fun (w' : World) (hb : Below w.heap.size w w') => both5_any A A2 n c n2 c2 a b w' B B2 (hs.below hb hB) (hs2.below hb hB2) (hA.below hb) (hA2.below hb) hn hn2 hne hne2 (Nat.le_trans hB hb.size) (Nat.le_trans hB2 hb.size) hl hk hk2
  have ht : twoL 5 a b = bothL 5 a b := by simp [twoL]
  have HF := Lib.hid hF
  have HT := Lib.hid ht
  clear hF ht hn hn2
  go_enter Try.func60, Try.ntmps60
  go_wp2_with fail
  refine (rules_any w).mono ?_
  rintro e w1 ⟨rfl, hR, hb1⟩
  obtain ⟨hg, c0, c1, c2', c3, c4, c5, c6, c7⟩ := cells8 hR
  have hz1 := hb1.size
  have hg1 : w.heap.size < w1.heap.size + 1 := by omega
  have hg2 : w.heap.size < w1.heap.size + 1 + 1 := by omega
  have hg3 : w.heap.size < w1.heap.size + 1 + 1 + 1 := by omega
  go_wp2
  refine wp_loop_rounds 1 ?_
  rw [rounds_succ]
  go_wp2_with fail
  have hbx := (hb1.alloc (by omega) (.cells #[.int .i64 5, .func (.func 115) #[] #[]] 91))
  refine Calls.mono (HF.out _ hbx) ?_
  rintro e w9 ⟨A9, c9, rfl, hs9, hA9, hb9⟩
  go_wp2
  go_ret
  exact form_row hA9 HT.out rfl hs9 (hbx.trans (hb9.mono (by simp; omega)))
set_option maxHeartbeats 4000000 in
theorem two6_any (A A2 : Option Addr) (n c n2 c2 : Nat) (a b : List Nd) (w : World) (B B2 : Nat) (hs : Sl w B 2 A n c (ncells a)) (hs2 : Sl w B2 2 A2 n2 c2 (ncells b)) (hA : Nb w A) (hA2 : Nb w A2) (hn : n = a.length) (hn2 : n2 = b.length) (hne : 0 < n) (hne2 : 0 < n2) (hB : B ≤ w.heap.size) (hB2 : B2 ≤ w.heap.size)
    (hl : n + n2 ≤ 100000) (hk : KOk n (kids a ((n : Int) - 1))) (hk2 : KOk n2 (kids b ((n2 : Int) - 1))) :
    Calls Try.prog 60 #[.int .i64 6, .slice A n c, .slice A2 n2 c2] w (FormPost w (twoL 6 a b)) := by
  have hF := fun (w' : World) (hb : Below w.heap.size w w') => both6_any A A2 n c n2 c2 a b w' B B2 (hs.below hb hB) (hs2.below hb hB2) (hA.below hb) (hA2.below hb) hn hn2 hne hne2 (Nat.le_trans hB hb.size) (Nat.le_trans hB2 hb.size) hl hk hk2
  have ht : twoL 6 a b = bothL 6 a b := by simp [twoL]
  have HF := Lib.hid hF
  have HT := Lib.hid ht
  clear hF ht hn hn2
  go_enter Try.func60, Try.ntmps60
  go_wp2_with fail
  refine (rules_any w).mono ?_
  rintro e w1 ⟨rfl, hR, hb1⟩
  obtain ⟨hg, c0, c1, c2', c3, c4, c5, c6, c7⟩ := cells8 hR
  have hz1 := hb1.size
  have hg1 : w.heap.size < w1.heap.size + 1 := by omega
  have hg2 : w.heap.size < w1.heap.size + 1 + 1 := by omega
  have hg3 : w.heap.size < w1.heap.size + 1 + 1 + 1 := by omega
  go_wp2
  refine wp_loop_rounds 2 ?_
  rw [rounds_succ]
  go_wp2
  rw [rounds_succ]
  go_wp2_with fail
  have hbx := ((hb1.alloc (by omega) (.cells #[.int .i64 5, .func (.func 115) #[] #[]] 91)).alloc (by simp; omega) (.cells #[.int .i64 6, .func (.func 115) #[] #[]] 91))
  refine Calls.mono (HF.out _ hbx) ?_
  rintro e w9 ⟨A9, c9, rfl, hs9, hA9, hb9⟩
  go_wp2
  go_ret
  exact form_row hA9 HT.out rfl hs9 (hbx.trans (hb9.mono (by simp; omega)))
set_option maxHeartbeats 4000000 in
theorem two9_any (A A2 : Option Addr) (n c n2 c2 : Nat) (a b : List Nd) (w : World) (B B2 : Nat) (hs : Sl w B 2 A n c (ncells a)) (hs2 : Sl w B2 2 A2 n2 c2 (ncells b)) (hA : Nb w A) (hA2 : Nb w A2) (hn : n = a.length) (hn2 : n2 = b.length) (hne : 0 < n) (hne2 : 0 < n2) (hB : B ≤ w.heap.size) (hB2 : B2 ≤ w.heap.size)
    (hl : n + n2 ≤ 100000) (hk2 : KOk n2 (kids b ((n2 : Int) - 1))) :
    Calls Try.prog 60 #[.int .i64 9, .slice A n c, .slice A2 n2 c2] w (FormPost w (twoL 9 a b)) := by
  have hF := fun (w' : World) (hb : Below w.heap.size w w') => last9_any A A2 n c n2 c2 a b w' B B2 (hs.below hb hB) (hs2.below hb hB2) (hA.below hb) (hA2.below hb) hn hn2 hne hne2 (Nat.le_trans hB hb.size) (Nat.le_trans hB2 hb.size) hl hk2
  have ht : twoL 9 a b = lastL 9 a b := by simp [twoL]
  have HF := Lib.hid hF
  have HT := Lib.hid ht
  clear hF ht hn hn2
  go_enter Try.func60, Try.ntmps60
  go_wp2_with fail
  refine (rules_any w).mono ?_
  rintro e w1 ⟨rfl, hR, hb1⟩
  obtain ⟨hg, c0, c1, c2', c3, c4, c5, c6, c7⟩ := cells8 hR
  have hz1 := hb1.size
  have hg1 : w.heap.size < w1.heap.size + 1 := by omega
  have hg2 : w.heap.size < w1.heap.size + 1 + 1 := by omega
  have hg3 : w.heap.size < w1.heap.size + 1 + 1 + 1 := by omega
  go_wp2
  refine wp_loop_rounds 3 ?_
  rw [rounds_succ]
  go_wp2
  rw [rounds_succ]
  go_wp2
  rw [rounds_succ]
  go_wp2_with fail
  have hbx := (((hb1.alloc (by omega) (.cells #[.int .i64 5, .func (.func 115) #[] #[]] 91)).alloc (by simp; omega) (.cells #[.int .i64 6, .func (.func 115) #[] #[]] 91)).alloc (by simp; omega) (.cells #[.int .i64 9, .func (.func 116) #[] #[]] 91))
  refine Calls.mono (HF.out _ hbx) ?_
  rintro e w9 ⟨A9, c9, rfl, hs9, hA9, hb9⟩
  go_wp2
  go_ret
  exact form_row hA9 HT.out rfl hs9 (hbx.trans (hb9.mono (by simp; omega)))
set_option maxHeartbeats 4000000 in
theorem two10_any (A A2 : Option Addr) (n c n2 c2 : Nat) (a b : List Nd) (w : World) (B B2 : Nat) (hs : Sl w B 2 A n c (ncells a)) (hs2 : Sl w B2 2 A2 n2 c2 (ncells b)) (hA : Nb w A) (hA2 : Nb w A2) (hn : n = a.length) (hn2 : n2 = b.length) (hne : 0 < n) (hne2 : 0 < n2) (hB : B ≤ w.heap.size) (hB2 : B2 ≤ w.heap.size)
    (hl : n + n2 ≤ 100000) (hk2 : KOk n2 (kids b ((n2 : Int) - 1))) :
    Calls Try.prog 60 #[.int .i64 10, .slice A n c, .slice A2 n2 c2] w (FormPost w (twoL 10 a b)) := by
  have hF := fun (w' : World) (hb : Below w.heap.size w w') => last10_any A A2 n c n2 c2 a b w' B B2 (hs.below hb hB) (hs2.below hb hB2) (hA.below hb) (hA2.below hb) hn hn2 hne hne2 (Nat.le_trans hB hb.size) (Nat.le_trans hB2 hb.size) hl hk2
  have ht : twoL 10 a b = lastL 10 a b := by simp [twoL]
  have HF := Lib.hid hF
  have HT := Lib.hid ht
  clear hF ht hn hn2
  go_enter Try.func60, Try.ntmps60
  go_wp2_with fail
  refine (rules_any w).mono ?_
  rintro e w1 ⟨rfl, hR, hb1⟩
  obtain ⟨hg, c0, c1, c2', c3, c4, c5, c6, c7⟩ := cells8 hR
  have hz1 := hb1.size
  have hg1 : w.heap.size < w1.heap.size + 1 := by omega
  have hg2 : w.heap.size < w1.heap.size + 1 + 1 := by omega
  have hg3 : w.heap.size < w1.heap.size + 1 + 1 + 1 := by omega
  go_wp2
  refine wp_loop_rounds 4 ?_
  rw [rounds_succ]
  go_wp2
  rw [rounds_succ]
  go_wp2
  rw [rounds_succ]
  go_wp2
  rw [rounds_succ]
  go_wp2_with fail
  have hbx := ((((hb1.alloc (by omega) (.cells #[.int .i64 5, .func (.func 115) #[] #[]] 91)).alloc (by simp; omega) (.cells #[.int .i64 6, .func (.func 115) #[] #[]] 91)).alloc (by simp; omega) (.cells #[.int .i64 9, .func (.func 116) #[] #[]] 91)).alloc (by simp; omega) (.cells #[.int .i64 10, .func (.func 116) #[] #[]] 91))
  refine Calls.mono (HF.out _ hbx) ?_
  rintro e w9 ⟨A9, c9, rfl, hs9, hA9, hb9⟩
  go_wp2
  go_ret
  exact form_row hA9 HT.out rfl hs9 (hbx.trans (hb9.mono (by simp; omega)))
end Go.Proofs.Ytkikkplpalabhaa
