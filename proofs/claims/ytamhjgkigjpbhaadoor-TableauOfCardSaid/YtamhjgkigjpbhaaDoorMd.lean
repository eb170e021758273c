/- Texts of one kind, in one file. -/
import Derived.Test.YtamhjgkigjpbhaaDoorProg
import Derived.Test.YtamhjgkigjpbhaaDoorMa
import Derived.Laws.StructEq
import Derived.Outline

/- (XSlI) The slices of numbers, as the laws on append ask. -/
namespace Go.Proofs.YtamhjgkigjpbhaaDoor
open Go.RowKit

theorem sliceInt : SliceT Tryd.prog 25 3 1 8 :=
  SliceT.mk (z := .int .i64 0) Tryd.underlying25 (by kernel_rfl) (by decide) (by decide)

end Go.Proofs.YtamhjgkigjpbhaaDoor

/- (XClI) The walk of slices.Clone at numbers. -/
namespace Go.Proofs.YtamhjgkigjpbhaaDoor
open Go.RowKit

set_option maxHeartbeats 400000 in
theorem cloneInt_any (A : Option Addr) (n c : Nat) (xs : List Value) (w : World) (B : Nat) (hs : Sl w B 1 A n c xs) (h1 : ∀ u ∈ xs, u.oneCell' = true) (hB : B ≤ w.heap.size) (hn : n ≤ 1000000000) :
    Calls Tryd.prog 57 #[.slice A n c] w (NewRow w 3 1 n xs (A = none)) := by
  have hnil := fun (w : World) (a : Option Addr) (l c : Nat) => Lib.run_eql_slice_nil (P := Tryd.prog) w 25 3 a l c 0 0 Tryd.underlying25
  rcases A with _ | ad
  · have hc : c = 0 := hs.nil rfl
    have hm : n = 0 := by have := hs.cap; omega
    subst hc; subst hm
    have hx : xs = [] := List.eq_nil_of_length_eq_zero (by rw [hs.len])
    subst hx
    go_enter Tryd.func57, Tryd.ntmps57
    go_wp2
    go_ret
    exact ⟨_, rfl, World.ownsRow_nil _ _ _ _, Below.refl _ _, by simp⟩
  · have hb0 : ∀ w : World, (w.alloc (.cells #[] 3)).ownsRow w.heap.size 3 1 (.slice (some ⟨w.heap.size, 0, none⟩) 0 0) 0 [] :=
      fun w => World.ownsRow_made w #[] 0 (Nat.le_refl _) (by unfold maxLen; omega) (by simp)
    go_enter Tryd.func57, Tryd.ntmps57
    go_wp2_with (at_builtin; refine wpList_extend rfl (.tmp 5) (.tmp 6) 25 rfl w.heap.size 3 1 8 sliceInt _ _ _ (hb0 w) rfl B (some ad) n c xs rfl (hs.below ((Below.refl w.heap.size w).alloc (Nat.le_refl _) _) hB) h1 (by omega) (by omega) (by simp) ?_; intro v1 w1 hown1 ht1 hat1 hnil1)
    go_ret
    refine ⟨v1, rfl, by simpa using hown1, ?_, by simp [hnil1]⟩
    exact ((Below.refl w.heap.size w).alloc (Nat.le_refl _) _).trans (ht1.below (by simp) (fun k hk => by simp [Value.ownBlock]; omega))
end Go.Proofs.YtamhjgkigjpbhaaDoor

/- (XSlN) The slices of nodes, as the laws on append ask. -/
namespace Go.Proofs.YtamhjgkigjpbhaaDoor
open Go.RowKit

theorem sliceNd : SliceT Tryd.prog 22 47 2 16 :=
  SliceT.mk (z := .agg #[.int .i64 0, .int .i64 0]) Tryd.underlying22 (by kernel_rfl) (by decide) (by decide)

end Go.Proofs.YtamhjgkigjpbhaaDoor

/- (XNeN) Nodes held against one another. -/
namespace Go.Proofs.YtamhjgkigjpbhaaDoor
open Go.RowKit

theorem neq_nd (x y : Nd) (w : World) : (binOp .neq 47 (.agg #[.int .i64 x.op, .int .i64 x.n]) (.agg #[.int .i64 y.op, .int .i64 y.n])).run Tryd.prog w = .ok (.bool (decide (x ≠ y))) w := by
  have hS : Tryd.prog.underlying 47 = some (.struct (Tryd.prog.fieldsOf 47)) := by kernel_rfl
  have hp : Tryd.prog.stoodInHeld 47 = false := by kernel_rfl
  rw [run_neq_struct, show (10000 : Nat) = 9999 + 1 from rfl, run_equalIn_agg w 9999 _ _ _ hS hp]
  simp only [Program.fieldsOf, Tryd.underlying47]
  obtain ⟨a, b⟩ := x
  obtain ⟨c, d⟩ := y
  go_simp
  by_cases h1 : a = c <;> by_cases h2 : b = d <;> simp [h1, h2]

end Go.Proofs.YtamhjgkigjpbhaaDoor

/- (XSlU) The slices of numbers, as the laws on append ask. -/
namespace Go.Proofs.YtamhjgkigjpbhaaDoor
open Go.RowKit

theorem sliceU64 : SliceT Tryd.prog 33 41 1 8 :=
  SliceT.mk (z := .int .u64 0) Tryd.underlying33 (by kernel_rfl) (by decide) (by decide)

end Go.Proofs.YtamhjgkigjpbhaaDoor

/- (XClN) The walk of slices.Clone at nodes. -/
namespace Go.Proofs.YtamhjgkigjpbhaaDoor
open Go.RowKit

end Go.Proofs.YtamhjgkigjpbhaaDoor

/- (XClU) The walk of slices.Clone at numbers. -/
namespace Go.Proofs.YtamhjgkigjpbhaaDoor
open Go.RowKit

/-- 'append(v, xs...)', v nil or owned, the bytes' bound laid bare. -/
theorem wpList_extendB {P : Program} {ops : Array Oper} {rest : List Oper} {o : Oper} {a : Act} {Q : Exit → Act → World → Prop} {w : World} (hgd : o.guard = none) (s x : Operand) (t : TypeId) (ho : o.op = .call { callee := .builtin .append, args := #[s, x], argTypes := #[t, t] })
    (base e size bytes : Nat) (T : SliceT P t e size bytes) (v : Value) (n : Nat) (xs : List Value) (hown : w.ownsRow base e size v n xs) (hs : a.eval s = v)
    (B : Nat) (A : Option Addr) (m c : Nat) (news : List Value) (hx : a.eval x = .slice A m c) (hr : Sl w B size A m c news) (h1 : ∀ u ∈ news, u.oneCell' = true)
    (hn : n + m ≤ 9223372036854775807) (hbb : (n + m) * bytes ≤ 140737488355328) (hbase : base ≤ w.heap.size)
    (h : ∀ v' w', w'.ownsRow base e size v' (n + m) (xs ++ news) → Tch (fun k => v.ownBlock = some k) w w' → (v'.ownBlock = v.ownBlock ∨ v'.ownBlock = some w.heap.size) → (v' = .slice none 0 0 ↔ v = .slice none 0 0 ∧ m = 0) → wpList P ops Q rest (a.put o.dst v') w') :
    wpList P ops Q (o :: rest) a w := by
  obtain ⟨ht, hsz, i, z, hi, hz, hs1, hb1, hz1⟩ := T
  rcases A with _ | ad
  · have hc : c = 0 := hr.nil rfl
    have hm : m = 0 := by have := hr.cap; omega
    subst hc; subst hm
    have hnews : news = [] := List.eq_nil_of_length_eq_zero (by rw [hr.len]; simp)
    subst hnews
    exact wpList_append_own_none hgd s x t ho base e i size ht hi v n xs hs hown hx
      (h v w (by simpa using hown) (Tch.refl _ _) (.inl rfl) (by simp))
  · have hnews : ∀ j u, news[j]? = some u → w.cell? (ad.add j) = some u := by
      intro j u hu
      obtain ⟨b, off, hA, _, hc⟩ := hr.rd.at_ hu
      cases hA
      have hadd : (⟨b, off, none⟩ : Addr).add j = ⟨b, off + j, none⟩ := by
        unfold Addr.add
        split
        · rename_i h; subst h; rfl
        · rfl
      rw [hadd]; exact hc
    exact wpList_append_own_at w hgd s x t ho base e i z size bytes ht hi hz hs1 hb1 hz1 hsz v n xs hs hown ad m c news hx hr.len hnews h1 (by unfold maxLen; omega) hbb hbase
      (fun v' w' h2 h3 h4 h5 => h v' w' h2 (Tch.of_grown h3) h5 h4)

end Go.Proofs.YtamhjgkigjpbhaaDoor

/- (XEqI) The walk of slices.Equal at numbers. -/
namespace Go.Proofs.YtamhjgkigjpbhaaDoor
open Go.RowKit

set_option maxHeartbeats 1000000 in
theorem equalInt_any (A1 A2 : Option Addr) (n1 c1 n2 c2 : Nat) (xs ys : List Int) (w : World) (B1 B2 : Nat) (hx : Sl w B1 1 A1 n1 c1 (icells xs)) (hy : Sl w B2 1 A2 n2 c2 (icells ys))
    (hn1 : n1 = xs.length) (hn2 : n2 = ys.length) (hl : n1 ≤ 1000000000) :
    Calls Tryd.prog 19 #[.slice A1 n1 c1, .slice A2 n2 c2] w (Said w (decide (xs = ys))) := by
  by_cases hne : n1 = n2
  · subst hne
    have HN1 := Lib.hid hn1
    have HN2 := Lib.hid hn2
    clear hn1 hn2
    have hd : ((n1 : Int) != (n1 : Int)) = false := by simp
    go_enter Tryd.func19, Tryd.ntmps19
    go_wp2
    go_loopw [13] (fun i wr => ∃ k m : Nat, k ≤ n1 ∧ i = .int .i64 k ∧ wr = w.drewN m ∧ Hid (xs.take k = ys.take k)) (fun i _ => n1 - (intOf i).toNat)
    case atStart => exact ⟨0, 0, by omega, rfl, rfl, rfl⟩
    case round =>
      obtain ⟨k, m, hk, rfl, rfl, ht⟩ := hrel
      by_cases hlt : k < n1
      · have hkx : k < xs.length := by rw [← HN1.out]; exact hlt
        have hky : k < ys.length := by rw [← HN2.out]; exact hlt
        obtain ⟨b, o, rfl, _, hc⟩ := rd_int hx.rd hkx
        obtain ⟨b', o', rfl, _, hc'⟩ := rd_int hy.rd hky
        have hs := fun h => take_eq_snoc ht.out hkx hky h
        generalize hX : xs[k] = x at *
        generalize hY : ys[k] = y at *
        have HX := Lib.hid hX
        have HY := Lib.hid hY
        have HS := Lib.hid hs
        clear hX hY hs
        have h0 : (0 : Int) ≤ (k : Int) := by omega
        have h1 : (k : Int) < (n1 : Int) := by omega
        go_wp2_with fail
        go_quiet (fail)
        go_wp2
        · go_ret
          refine ⟨ret_bool ?_, ?_⟩
          · have hne : x ≠ y := by first | assumption | (rename_i h; simpa using h)
            symm; rw [decide_eq_false_iff_not]
            rintro rfl
            exact hne (HX.out.symm.trans HY.out)
          · exact ⟨_, by rw [World.drewN_drewN]⟩
        · have he : x = y := by first | assumption | (rename_i h; simpa using h)
          go_roundw
          case rel => exact ⟨k + 1, _, by omega, by go_num, by first | rfl | rw [World.drewN_drewN], HS.out he⟩
          case measure => simp [intOf]; omega
      · have hkn : k = n1 := by omega
        subst hkn
        go_wp2
        go_ret
        refine ⟨ret_bool ?_, _, rfl⟩
        have := ht.out
        rw [List.take_of_length_le (by rw [← HN1.out]; exact Nat.le_refl _), List.take_of_length_le (by rw [← HN2.out]; exact Nat.le_refl _)] at this
        simp [this]
  · have hd : ((n1 : Int) != (n2 : Int)) = true := by simp; omega
    have HD := Lib.hid hne
    have HN1 := Lib.hid hn1
    have HN2 := Lib.hid hn2
    clear hne hn1 hn2
    go_enter Tryd.func19, Tryd.ntmps19
    go_wp2
    go_ret
    refine ⟨ret_bool ?_, 0, rfl⟩
    symm; rw [decide_eq_false_iff_not]
    intro h
    exact HD.out (by rw [HN1.out, HN2.out, h])
end Go.Proofs.YtamhjgkigjpbhaaDoor

/- (XEqN) The walk of slices.Equal at nodes. -/
namespace Go.Proofs.YtamhjgkigjpbhaaDoor
open Go.RowKit

end Go.Proofs.YtamhjgkigjpbhaaDoor

/- (XEqU) The walk of a function that holds two lists against one another. -/
namespace Go.Proofs.YtamhjgkigjpbhaaDoor
open Go.RowKit

end Go.Proofs.YtamhjgkigjpbhaaDoor
