/- Texts that stand one behind the other, in one file. -/
import Derived.Outline
import Derived.Test.YtiebpncpdbnelaaDoorZab
set_option maxHeartbeats 1000000
namespace Go.Proofs.YtiebpncpdbnelaaDoor
open Go.RowKit
theorem sliceInt : SliceT Tryd.prog 22 3 1 8 :=
 SliceT.mk (z := .int .i64 0) Tryd.underlying22 (by kernel_rfl) (by decide) (by decide)
end Go.Proofs.YtiebpncpdbnelaaDoor
namespace Go.Proofs.YtiebpncpdbnelaaDoor
open Go.RowKit
theorem cloneInt_any (A : Option Addr) (n c : Nat) (xs : List Value) (w : World) (B : Nat) (hs : Sl w B 1 A n c xs) (h1 : ∀ u ∈ xs, u.oneCell' = true) (hB : B ≤ w.1.size) (hn : n ≤ 1000000000) :
  Calls Tryd.prog 119 #[.slice A n c] w (NewRow w 3 1 n xs (A = none)) := by
 have hnil := fun (w : World) (a : Option Addr) (l c : Nat) => Lib.run_eql_slice_nil (P := Tryd.prog) w 22 3 a l c 0 0 Tryd.underlying22
 rcases A with _ | ad
 ·have hc : c = 0 := hs.nil rfl
  have hm : n = 0 := by have := hs.cap; omega
  subst hc; subst hm
  have hx : xs = [] := List.eq_nil_of_length_eq_zero (by rw [hs.len])
  subst hx
  go_enter Tryd.func119, Tryd.ntmps119
  go_wp2
  go_ret
  exact ⟨_, rfl, World.ownsRow_nil _ _ _ _, bR, by simp⟩
 ·have hb0 : ∀ w : World, (w.alloc (.cells #[] 3)).ownsRow w.1.size 3 1 (.slice (some ⟨w.1.size, 0, none⟩) 0 0) 0 [] :=
   fun w => World.ownsRow_made w #[] 0 lR (by unfold maxLen; omega) (by simp)
  go_enter Tryd.func119, Tryd.ntmps119
  go_wp2_with (at_builtin; refine wpList_extend rfl (.tmp 5) (.tmp 6) 22 rfl w.1.size 3 1 8 sliceInt _ _ _ (hb0 w) rfl B (some ad) n c xs rfl (hs.below ((Below.refl w.1.size w).alloc lR _) hB) h1 (by omega) (by omega) (by simp) ?_; intro v1 w1 hown1 ht1 hat1 hnil1)
  go_ret
  refine ⟨v1, rfl, by simpa using hown1, ?_, by simp [hnil1]⟩
  exact ((Below.refl w.1.size w).alloc lR _).trans (ht1.below (by simp) (fun k hk => by simp [Value.ownBlock]; omega))
end Go.Proofs.YtiebpncpdbnelaaDoor
namespace Go.Proofs.YtiebpncpdbnelaaDoor
open Go.RowKit
theorem sliceU64 : SliceT Tryd.prog 27 41 1 8 :=
 SliceT.mk (z := .int .u64 0) Tryd.underlying27 (by kernel_rfl) (by decide) (by decide)
end Go.Proofs.YtiebpncpdbnelaaDoor
namespace Go.Proofs.YtiebpncpdbnelaaDoor
open Go.RowKit
theorem wpList_extendB {P : Program} {ops : Array Oper} {rest : List Oper} {o : Oper} {a : Act} {Q : Exit → Act → World → Prop} {w : World} (hgd : o.guard = none) (s x : Operand) (t : TypeId) (ho : o.op = .call { callee := .builtin .append, args := #[s, x], argTypes := #[t, t] })
  (base e size bytes : Nat) (T : SliceT P t e size bytes) (v : Value) (n : Nat) (xs : List Value) (hown : w.ownsRow base e size v n xs) (hs : a.eval s = v)
  (B : Nat) (A : Option Addr) (m c : Nat) (news : List Value) (hx : a.eval x = .slice A m c) (hr : Sl w B size A m c news) (h1 : ∀ u ∈ news, u.oneCell' = true)
  (hn : n + m ≤ 9223372036854775807) (hbb : (n + m) * bytes ≤ 140737488355328) (hbase : base ≤ w.1.size)
  (h : ∀ v' w', w'.ownsRow base e size v' (n + m) (xs ++ news) → Tch (fun k => v.ownBlock = some k) w w' → (v'.ownBlock = v.ownBlock ∨ v'.ownBlock = some w.1.size) → (v' = .slice none 0 0 ↔ v = .slice none 0 0 ∧ m = 0) → wpList P ops Q rest (a.put o.dst v') w') :
  wpList P ops Q (o :: rest) a w := by
 obtain ⟨ht, hsz, i, z, hi, hz, hs1, hb1, hz1⟩ := T
 rcases A with _ | ad
 ·have hc : c = 0 := hr.nil rfl
  have hm : m = 0 := by have := hr.cap; omega
  subst hc; subst hm
  have hnews : news = [] := List.eq_nil_of_length_eq_zero (by rw [hr.len]; simp)
  subst hnews
  exact wpList_append_own_none hgd s x t ho base e i size ht hi v n xs hs hown hx
   (h v w (by simpa using hown) (Tch.refl _ _) (.inl rfl) (by simp))
 ·have hnews : ∀ j u, news[j]? = some u → w.cell? (ad.add j) = some u := by
   intro j u hu
   obtain ⟨b, off, hA, _, hc⟩ := hr.rd.at_ hu
   cases hA
   have hadd : (⟨b, off, none⟩ : Addr).add j = ⟨b, off + j, none⟩ := by
    unfold Addr.add
    split
    ·rename_i h; subst h; rfl
    ·rfl
   rw [hadd]; exact hc
  exact wpList_append_own_at w hgd s x t ho base e i z size bytes ht hi hz hs1 hb1 hz1 hsz v n xs hs hown ad m c news hx hr.len hnews h1 (by unfold maxLen; omega) hbb hbase
   (fun v' w' h2 h3 h4 h5 => h v' w' h2 (Tch.of_grown h3) h5 h4)
theorem cloneU_any (A : Option Addr) (n c : Nat) (xs : List Value) (w : World) (B : Nat) (hs : Sl w B 1 A n c xs) (h1 : ∀ u ∈ xs, u.oneCell' = true) (hB : B ≤ w.1.size) (hn : n ≤ 17592186044416) :
  Calls Tryd.prog 124 #[.slice A n c] w (NewRow w 41 1 n xs (A = none)) := by
 have hnil := fun (w : World) (a : Option Addr) (l c : Nat) => Lib.run_eql_slice_nil (P := Tryd.prog) w 27 41 a l c 0 0 Tryd.underlying27
 rcases A with _ | ad
 ·have hc : c = 0 := hs.nil rfl
  have hm : n = 0 := by have := hs.cap; omega
  subst hc; subst hm
  have hx : xs = [] := List.eq_nil_of_length_eq_zero (by rw [hs.len])
  subst hx
  go_enter Tryd.func124, Tryd.ntmps124
  go_wp2
  go_ret
  exact ⟨_, rfl, World.ownsRow_nil _ _ _ _, bR, by simp⟩
 ·have hb0 : ∀ w : World, (w.alloc (.cells #[] 41)).ownsRow w.1.size 41 1 (.slice (some ⟨w.1.size, 0, none⟩) 0 0) 0 [] :=
   fun w => World.ownsRow_made w #[] 0 lR (by unfold maxLen; omega) (by simp)
  go_enter Tryd.func124, Tryd.ntmps124
  go_wp2_with (at_builtin; refine wpList_extendB rfl (.tmp 5) (.tmp 6) 27 rfl w.1.size 41 1 8 sliceU64 _ _ _ (hb0 w) rfl B (some ad) n c xs rfl (hs.below ((Below.refl w.1.size w).alloc lR _) hB) h1 (by omega) (by omega) (by simp) ?_; intro v1 w1 hown1 ht1 hat1 hnil1)
  go_ret
  refine ⟨v1, rfl, by simpa using hown1, ?_, by simp [hnil1]⟩
  exact ((Below.refl w.1.size w).alloc lR _).trans (ht1.below (by simp) (fun k hk => by simp [Value.ownBlock]; omega))
end Go.Proofs.YtiebpncpdbnelaaDoor
namespace Go.Proofs.YtiebpncpdbnelaaDoor
open Go.RowKit
theorem equalInt_any (A1 A2 : Option Addr) (n1 c1 n2 c2 : Nat) (xs ys : List Int) (w : World) (B1 B2 : Nat) (hx : Sl w B1 1 A1 n1 c1 (icells xs)) (hy : Sl w B2 1 A2 n2 c2 (icells ys))
  (hn1 : n1 = xs.length) (hn2 : n2 = ys.length) (hl : n1 ≤ 1000000000) :
  Calls Tryd.prog 51 #[.slice A1 n1 c1, .slice A2 n2 c2] w (Said w (decide (xs = ys))) := by
 by_cases hne : n1 = n2
 ·subst hne
  have HN1 := dh hn1
  have HN2 := dh hn2
  clear hn1 hn2
  have hd : ((n1 : Int) != (n1 : Int)) = false := by simp
  go_enter Tryd.func51, Tryd.ntmps51
  go_wp2
  go_loopw [13] (fun i wr => ∃ k m : Nat, k ≤ n1 ∧ i = .int .i64 k ∧ wr = w.drewN m ∧ Hid (xs.take k = ys.take k)) (fun i _ => n1 - (intOf i).toNat)
  case atStart => exact ⟨0, 0, by omega, rfl, rfl, rfl⟩
  case round =>
   obtain ⟨k, m, hk, rfl, rfl, ht⟩ := hrel
   by_cases hlt : k < n1
   ·have hkx : k < xs.length := by rw [← HN1.out]; exact hlt
    have hky : k < ys.length := by rw [← HN2.out]; exact hlt
    obtain ⟨b, o, rfl, _, hc⟩ := rd_int hx.rd hkx
    obtain ⟨b', o', rfl, _, hc'⟩ := rd_int hy.rd hky
    have hs := fun h => take_eq_snoc ht.out hkx hky h
    generalize hX : xs[k] = x at *
    generalize hY : ys[k] = y at *
    have HX := dh hX
    have HY := dh hY
    have HS := dh hs
    clear hX hY hs
    have h0 : (0 : Int) ≤ (k : Int) := by omega
    have h1 : (k : Int) < (n1 : Int) := by omega
    go_wp2_with fail
    go_quiet (fail)
    go_wp2
    ·go_ret
     refine ⟨ret_bool ?_, ?_⟩
     ·have hne : x ≠ y := by first | assumption | (rename_i h; simpa using h)
      symm; rw [decide_eq_false_iff_not]
      rintro rfl
      exact hne (HX.out.symm.trans HY.out)
     ·exact ⟨_, by rw [World.drewN_drewN]⟩
    ·have he : x = y := by first | assumption | (rename_i h; simpa using h)
     go_roundw
     case rel => exact ⟨k + 1, _, by omega, by go_num, by first | rfl | rw [World.drewN_drewN], HS.out he⟩
     case measure => simp [intOf]; omega
   ·have hkn : k = n1 := by omega
    subst hkn
    go_wp2
    go_ret
    refine ⟨ret_bool ?_, _, rfl⟩
    have := ht.out
    rw [tL (by rw [← HN1.out]; exact lR), tL (by rw [← HN2.out]; exact lR)] at this
    simp [this]
 ·have hd : ((n1 : Int) != (n2 : Int)) = true := by simp; omega
  have HD := dh hne
  have HN1 := dh hn1
  have HN2 := dh hn2
  clear hne hn1 hn2
  go_enter Tryd.func51, Tryd.ntmps51
  go_wp2
  go_ret
  refine ⟨ret_bool ?_, 0, rfl⟩
  symm; rw [decide_eq_false_iff_not]
  intro h
  exact HD.out (by rw [HN1.out, HN2.out, h])
end Go.Proofs.YtiebpncpdbnelaaDoor
namespace Go.Proofs.YtiebpncpdbnelaaDoor
open Go.RowKit
def natI (l : List Nat) : List Int := l.map (fun (i : Nat) => (i : Int))
theorem natI_len (l : List Nat) : (natI l).length = l.length := by simp [natI]
theorem natI_append (l r : List Nat) : natI (l ++ r) = natI l ++ natI r := by simp [natI]
theorem cloneB_any (A : Option Addr) (n c : Nat) (xs : List Value) (w : World) (B : Nat) (hs : Sl w B 1 A n c xs) (h1 : ∀ u ∈ xs, u.oneCell' = true) (hB : B ≤ w.1.size) (hn : n ≤ 1000000000) :
  Calls Tryd.prog 72 #[.slice A n c] w (NewRow w 4 1 n xs (A = none)) := by
 have hnil := fun (w : World) (a : Option Addr) (l c : Nat) => Lib.run_eql_slice_nil (P := Tryd.prog) w 54 4 a l c 0 0 Tryd.underlying54
 rcases A with _ | ad
 ·have hc : c = 0 := hs.nil rfl
  have hm : n = 0 := by have := hs.cap; omega
  subst hc; subst hm
  have hx : xs = [] := List.eq_nil_of_length_eq_zero (by rw [hs.len])
  subst hx
  go_enter Tryd.func72, Tryd.ntmps72
  go_wp2
  go_ret
  exact ⟨_, rfl, World.ownsRow_nil _ _ _ _, bR, by simp⟩
 ·have hb0 : ∀ w : World, (w.alloc (.cells #[] 4)).ownsRow w.1.size 4 1 (.slice (some ⟨w.1.size, 0, none⟩) 0 0) 0 [] :=
   fun w => World.ownsRow_made w #[] 0 lR (by unfold maxLen; omega) (by simp)
  go_enter Tryd.func72, Tryd.ntmps72
  go_wp2_with (at_builtin; refine wpList_extend rfl (.tmp 5) (.tmp 6) 54 rfl w.1.size 4 1 1 sliceBool _ _ _ (hb0 w) rfl B (some ad) n c xs rfl (hs.below ((Below.refl w.1.size w).alloc lR _) hB) h1 (by omega) (by omega) (by simp) ?_; intro v1 w1 hown1 ht1 hat1 hnil1)
  go_ret
  refine ⟨v1, rfl, by simpa using hown1, ?_, by simp [hnil1]⟩
  exact ((Below.refl w.1.size w).alloc lR _).trans (ht1.below (by simp) (fun k hk => by simp [Value.ownBlock]; omega))
end Go.Proofs.YtiebpncpdbnelaaDoor
namespace Go.Proofs.YtiebpncpdbnelaaDoor
open Go.RowKit
theorem heap_lt {w : World} {g : Nat} {o : Obj} (h : w.1[g]? = some o) : g < w.1.size := (aI.1 h).1
theorem box5 (w : World) (x y : Obj) : Below w.1.size w ((w.alloc x).alloc y) ∧ ((w.alloc x).alloc y).1[w.1.size]? = some x ∧ ((w.alloc x).alloc y).1[w.1.size + 1]? = some y ∧ ((w.alloc x).alloc y).1.size = w.1.size + 2 := by
 refine ⟨(bR.alloc lR _).alloc (by simp) _, ?_, ?_, by simp⟩
 ·rw [Below.heap_alloc _ _ _ (by simp)]; exact heap_alloc_new w x
 ·have := heap_alloc_new (w.alloc x) y
  rwa [show (w.alloc x).1.size = w.1.size + 1 by simp] at this
end Go.Proofs.YtiebpncpdbnelaaDoor
