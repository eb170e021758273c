/- Texts of one kind, in one file. -/
import Derived.Test.YtikhlcdgibnolaaDoorProg
import Derived.Test.YtikhlcdgibnolaaDoorMa
import Derived.Laws.StructEq
import Derived.Outline

/- (XSlI) The slices of numbers, as the laws on append ask. -/
namespace Go.Proofs.YtikhlcdgibnolaaDoor
open Go.RowKit

theorem sliceInt : SliceT Tryd.prog 26 3 1 8 :=
  SliceT.mk (z := .int .i64 0) Tryd.underlying26 (by kernel_rfl) (by decide) (by decide)

end Go.Proofs.YtikhlcdgibnolaaDoor

/- (XSlN) The slices of nodes, as the laws on append ask. -/
namespace Go.Proofs.YtikhlcdgibnolaaDoor
open Go.RowKit

end Go.Proofs.YtikhlcdgibnolaaDoor

/- (XSlU) The slices of numbers, as the laws on append ask. -/
namespace Go.Proofs.YtikhlcdgibnolaaDoor
open Go.RowKit

theorem sliceU64 : SliceT Tryd.prog 57 22 1 8 :=
  SliceT.mk (z := .int .u64 0) Tryd.underlying57 (by kernel_rfl) (by decide) (by decide)

end Go.Proofs.YtikhlcdgibnolaaDoor

/- (XNeN) Nodes held against one another. -/
namespace Go.Proofs.YtikhlcdgibnolaaDoor
open Go.RowKit

end Go.Proofs.YtikhlcdgibnolaaDoor

/- (XClI) The walk of slices.Clone at numbers. -/
namespace Go.Proofs.YtikhlcdgibnolaaDoor
open Go.RowKit

end Go.Proofs.YtikhlcdgibnolaaDoor

/- (XClN) The walk of slices.Clone at nodes. -/
namespace Go.Proofs.YtikhlcdgibnolaaDoor
open Go.RowKit

end Go.Proofs.YtikhlcdgibnolaaDoor

/- (XClU) The walk of slices.Clone at numbers. -/
namespace Go.Proofs.YtikhlcdgibnolaaDoor
open Go.RowKit

/-- 'append(v, xs...)', v nil or owned, the bytes' bound laid bare. -/
theorem wpList_extendB {P : Program} {ops : Array Oper} {rest : List Oper} {o : Oper} {a : Act} {Q : Exit → Act → World → Prop} {w : World} (hgd : o.guard = none) (s x : Operand) (t : TypeId) (ho : o.op = .call { callee := .builtin .append, args := #[s, x], argTypes := #[t, t] })
    (base e size bytes : Nat) (T : SliceT P t e size bytes) (v : Value) (n : Nat) (xs : List Value) (hown : w.ownsRow base e size v n xs) (hs : a.eval s = v)
    (B : Nat) (A : Option Addr) (m c : Nat) (news : List Value) (hx : a.eval x = .slice A m c) (hr : Sl w B size A m c news) (h1 : ∀ u ∈ news, u.oneCell' = true)
    (hn : n + m ≤ 9223372036854775807) (hbb : (n + m) * bytes ≤ 140737488355328) (hbase : base ≤ w.heap.size)
    (h : ∀ v' w', w'.ownsRow base e size v' (n + m) (xs ++ news) → Tch (fun k => v.ownBlock = some k) w w' → (v'.ownBlock = v.ownBlock ∨ v'.ownBlock = some w.heap.size) → (v' = .slice none 0 0 ↔ v = .slice none 0 0 ∧ m = 0) → wpList P ops Q rest (a.put o.dst v') w') :
    wpList P ops Q (o :: rest) a w := by
  obtain ⟨ht, hsz, i, z, hi, hz, hs1, hb1, hz1⟩ := T
  rcases A with _ | ad
  · have hc : c = 0 := hr.nil rfl
    have hm : m = 0 := by have := hr.cap; omega
    subst hc; subst hm
    have hnews : news = [] := List.eq_nil_of_length_eq_zero (by rw [hr.len]; simp)
    subst hnews
    exact wpList_append_own_none hgd s x t ho base e i size ht hi v n xs hs hown hx
      (h v w (by simpa using hown) (Tch.refl _ _) (.inl rfl) (by simp))
  · have hnews : ∀ j u, news[j]? = some u → w.cell? (ad.add j) = some u := by
      intro j u hu
      obtain ⟨b, off, hA, _, hc⟩ := hr.rd.at_ hu
      cases hA
      have hadd : (⟨b, off, none⟩ : Addr).add j = ⟨b, off + j, none⟩ := by
        unfold Addr.add
        split
        · rename_i h; subst h; rfl
        · rfl
      rw [hadd]; exact hc
    exact wpList_append_own_at w hgd s x t ho base e i z size bytes ht hi hz hs1 hb1 hz1 hsz v n xs hs hown ad m c news hx hr.len hnews h1 (by unfold maxLen; omega) hbb hbase
      (fun v' w' h2 h3 h4 h5 => h v' w' h2 (Tch.of_grown h3) h5 h4)

end Go.Proofs.YtikhlcdgibnolaaDoor

/- (XEqI) The walk of slices.Equal at numbers. -/
namespace Go.Proofs.YtikhlcdgibnolaaDoor
open Go.RowKit

end Go.Proofs.YtikhlcdgibnolaaDoor

/- (XEqN) The walk of slices.Equal at nodes. -/
namespace Go.Proofs.YtikhlcdgibnolaaDoor
open Go.RowKit

end Go.Proofs.YtikhlcdgibnolaaDoor

/- (XEqU) The walk of a function that holds two lists against one another. -/
namespace Go.Proofs.YtikhlcdgibnolaaDoor
open Go.RowKit

end Go.Proofs.YtikhlcdgibnolaaDoor
