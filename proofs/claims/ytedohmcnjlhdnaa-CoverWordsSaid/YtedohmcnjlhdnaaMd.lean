/- Texts of one kind, in one file. -/
import Derived.Test.YtedohmcnjlhdnaaProg
import Derived.Test.YtedohmcnjlhdnaaMa
import Derived.Laws.StructEq
import Derived.Outline

/- (XSlI) The slices of numbers, as the laws on append ask. -/
namespace Go.Proofs.Ytedohmcnjlhdnaa
open Go.RowKit

theorem sliceInt : SliceT Try.prog 28 3 1 8 :=
  SliceT.mk (z := .int .i64 0) Try.underlying28 (by kernel_rfl) (by decide) (by decide)

end Go.Proofs.Ytedohmcnjlhdnaa

/- (XClI) The walk of slices.Clone at numbers. -/
namespace Go.Proofs.Ytedohmcnjlhdnaa
open Go.RowKit

set_option maxHeartbeats 400000 in
theorem cloneInt_any (A : Option Addr) (n c : Nat) (xs : List Value) (w : World) (B : Nat) (hs : Sl w B 1 A n c xs) (h1 : ∀ u ∈ xs, u.oneCell' = true) (hB : B ≤ w.heap.size) (hn : n ≤ 1000000000) :
    Calls Try.prog 47 #[.slice A n c] w (NewRow w 3 1 n xs (A = none)) := by
  have hnil := fun (w : World) (a : Option Addr) (l c : Nat) => Lib.run_eql_slice_nil (P := Try.prog) w 28 3 a l c 0 0 Try.underlying28
  rcases A with _ | ad
  · have hc : c = 0 := hs.nil rfl
    have hm : n = 0 := by have := hs.cap; omega
    subst hc; subst hm
    have hx : xs = [] := List.eq_nil_of_length_eq_zero (by rw [hs.len])
    subst hx
    go_enter Try.func47, Try.ntmps47
    go_wp2
    go_ret
    exact ⟨_, rfl, World.ownsRow_nil _ _ _ _, Below.refl _ _, by simp⟩
  · have hb0 : ∀ w : World, (w.alloc (.cells #[] 3)).ownsRow w.heap.size 3 1 (.slice (some ⟨w.heap.size, 0, none⟩) 0 0) 0 [] :=
      fun w => World.ownsRow_made w #[] 0 (Nat.le_refl _) (by unfold maxLen; omega) (by simp)
    go_enter Try.func47, Try.ntmps47
    go_wp2_with (at_builtin; refine wpList_extend rfl (.tmp 5) (.tmp 6) 28 rfl w.heap.size 3 1 8 sliceInt _ _ _ (hb0 w) rfl B (some ad) n c xs rfl (hs.below ((Below.refl w.heap.size w).alloc (Nat.le_refl _) _) hB) h1 (by omega) (by omega) (by simp) ?_; intro v1 w1 hown1 ht1 hat1 hnil1)
    go_ret
    refine ⟨v1, rfl, by simpa using hown1, ?_, by simp [hnil1]⟩
    exact ((Below.refl w.heap.size w).alloc (Nat.le_refl _) _).trans (ht1.below (by simp) (fun k hk => by simp [Value.ownBlock]; omega))
end Go.Proofs.Ytedohmcnjlhdnaa

/- (XSlN) The slices of nodes, as the laws on append ask. -/
namespace Go.Proofs.Ytedohmcnjlhdnaa
open Go.RowKit

theorem sliceNd : SliceT Try.prog 22 38 2 16 :=
  SliceT.mk (z := .agg #[.int .i64 0, .int .i64 0]) Try.underlying22 (by kernel_rfl) (by decide) (by decide)

end Go.Proofs.Ytedohmcnjlhdnaa

/- (XNeN) Nodes held against one another. -/
namespace Go.Proofs.Ytedohmcnjlhdnaa
open Go.RowKit

theorem neq_nd (x y : Nd) (w : World) : (binOp .neq 38 (.agg #[.int .i64 x.op, .int .i64 x.n]) (.agg #[.int .i64 y.op, .int .i64 y.n])).run Try.prog w = .ok (.bool (decide (x ≠ y))) w := by
  have hS : Try.prog.underlying 38 = some (.struct (Try.prog.fieldsOf 38)) := by kernel_rfl
  have hp : Try.prog.stoodInHeld 38 = false := by kernel_rfl
  rw [run_neq_struct, show (10000 : Nat) = 9999 + 1 from rfl, run_equalIn_agg w 9999 _ _ _ hS hp]
  simp only [Program.fieldsOf, Try.underlying38]
  obtain ⟨a, b⟩ := x
  obtain ⟨c, d⟩ := y
  go_simp
  by_cases h1 : a = c <;> by_cases h2 : b = d <;> simp [h1, h2]

end Go.Proofs.Ytedohmcnjlhdnaa

/- (XSlU) The slices of numbers, as the laws on append ask. -/
namespace Go.Proofs.Ytedohmcnjlhdnaa
open Go.RowKit

theorem sliceU64 : SliceT Try.prog 25 45 1 8 :=
  SliceT.mk (z := .int .u64 0) Try.underlying25 (by kernel_rfl) (by decide) (by decide)

end Go.Proofs.Ytedohmcnjlhdnaa

/- (XClN) The walk of slices.Clone at nodes. -/
namespace Go.Proofs.Ytedohmcnjlhdnaa
open Go.RowKit

end Go.Proofs.Ytedohmcnjlhdnaa

/- (XClU) The walk of slices.Clone at numbers. -/
namespace Go.Proofs.Ytedohmcnjlhdnaa
open Go.RowKit

/-- 'append(v, xs...)', v nil or owned, the bytes' bound laid bare. -/
theorem wpList_extendB {P : Program} {ops : Array Oper} {rest : List Oper} {o : Oper} {a : Act} {Q : Exit → Act → World → Prop} {w : World} (hgd : o.guard = none) (s x : Operand) (t : TypeId) (ho : o.op = .call { callee := .builtin .append, args := #[s, x], argTypes := #[t, t] })
    (base e size bytes : Nat) (T : SliceT P t e size bytes) (v : Value) (n : Nat) (xs : List Value) (hown : w.ownsRow base e size v n xs) (hs : a.eval s = v)
    (B : Nat) (A : Option Addr) (m c : Nat) (news : List Value) (hx : a.eval x = .slice A m c) (hr : Sl w B size A m c news) (h1 : ∀ u ∈ news, u.oneCell' = true)
    (hn : n + m ≤ 9223372036854775807) (hbb : (n + m) * bytes ≤ 140737488355328) (hbase : base ≤ w.heap.size)
    (h : ∀ v' w', w'.ownsRow base e size v' (n + m) (xs ++ news) → Tch (fun k => v.ownBlock = some k) w w' → (v'.ownBlock = v.ownBlock ∨ v'.ownBlock = some w.heap.size) → (v' = .slice none 0 0 ↔ v = .slice none 0 0 ∧ m = 0) → wpList P ops Q rest (a.put o.dst v') w') :
    wpList P ops Q (o :: rest) a w := by
  obtain ⟨ht, hsz, i, z, hi, hz, hs1, hb1, hz1⟩ := T
  rcases A with _ | ad
  · have hc : c = 0 := hr.nil rfl
    have hm : m = 0 := by have := hr.cap; omega
    subst hc; subst hm
    have hnews : news = [] := List.eq_nil_of_length_eq_zero (by rw [hr.len]; simp)
    subst hnews
    exact wpList_append_own_none hgd s x t ho base e i size ht hi v n xs hs hown hx
      (h v w (by simpa using hown) (Tch.refl _ _) (.inl rfl) (by simp))
  · have hnews : ∀ j u, news[j]? = some u → w.cell? (ad.add j) = some u := by
      intro j u hu
      obtain ⟨b, off, hA, _, hc⟩ := hr.rd.at_ hu
      cases hA
      have hadd : (⟨b, off, none⟩ : Addr).add j = ⟨b, off + j, none⟩ := by
        unfold Addr.add
        split
        · rename_i h; subst h; rfl
        · rfl
      rw [hadd]; exact hc
    exact wpList_append_own_at w hgd s x t ho base e i z size bytes ht hi hz hs1 hb1 hz1 hsz v n xs hs hown ad m c news hx hr.len hnews h1 (by unfold maxLen; omega) hbb hbase
      (fun v' w' h2 h3 h4 h5 => h v' w' h2 (Tch.of_grown h3) h5 h4)

end Go.Proofs.Ytedohmcnjlhdnaa

/- (XEqI) The walk of slices.Equal at numbers. -/
namespace Go.Proofs.Ytedohmcnjlhdnaa
open Go.RowKit

end Go.Proofs.Ytedohmcnjlhdnaa

/- (XEqN) The walk of slices.Equal at nodes. -/
namespace Go.Proofs.Ytedohmcnjlhdnaa
open Go.RowKit

end Go.Proofs.Ytedohmcnjlhdnaa

/- (XEqU) The walk of a function that holds two lists against one another. -/
namespace Go.Proofs.Ytedohmcnjlhdnaa
open Go.RowKit

end Go.Proofs.Ytedohmcnjlhdnaa
