/- The walks of layer 25's writer: leaf, pick. -/
import Derived.Test.YtedohmcnjlhdnaaMd
import Derived.Test.YtedohmcnjlhdnaaMa
import Derived.Outline
import Derived.Deep.RegionLaw
namespace Go.Proofs.Ytedohmcnjlhdnaa
open Go.RowKit

/-- A block of three cells: what is read of it. -/
theorem cells3 {w : World} {g t : Nat} {a b c : Value} (h : w.heap[g]? = some (.cells #[a, b, c] t (0, 0))) :
    w.cell? ⟨g, 0, none⟩ = some a ∧ w.cell? ⟨g, 1, none⟩ = some b ∧ w.cell? ⟨g, 2, none⟩ = some c ∧ w.frozen? ⟨g, 2, none⟩ = false := by
  refine ⟨by simp [World.cell?, h], by simp [World.cell?, h], by simp [World.cell?, h], by simp [World.frozen?, h]⟩
theorem set3 {w : World} {g t : Nat} {a b c u : Value} (h : w.heap[g]? = some (.cells #[a, b, c] t (0, 0))) : (w.setCell ⟨g, 2, none⟩ u).heap[g]? = some (.cells #[a, b, u] t (0, 0)) := by
  have hlt := (Array.getElem?_eq_some_iff.1 h).1
  have h' : w.heap[g] = .cells #[a, b, c] t (0, 0) := by simpa [Array.getElem?_eq_getElem hlt] using h
  simp [World.setCell, Array.getElem?_modify, h]

/-- What the writer's block is, and what it owns. -/
def WIn (f : List Nd) (s : List Int) (A A' : Option Addr) (c c' Bw : Nat) (w : World) (vo : Value) (n : Nat) (xs : List Value) : Prop :=
  w.heap[Bw]? = some (.cells #[.slice A f.length c, .slice A' s.length c', vo] 87 (0, 0)) ∧ w.ownsRow (Bw + 1) 38 2 vo n xs ∧
    Sl w Bw 2 A f.length c (ncells f) ∧ Sl w Bw 1 A' s.length c' (icells s)
/-- What a call of the writer's leaves: m nodes more. -/
def WOut (f : List Nd) (s : List Int) (A A' : Option Addr) (c c' Bw : Nat) (w : World) (vo : Value) (n : Nat) (xs : List Value) (m : Nat) (news : List Value) (en : Ending) (w' : World) : Prop :=
  ∃ vo', en = .returned (.tuple #[]) ∧ WIn f s A A' c c' Bw w' vo' (n + m) (xs ++ news) ∧ Tch (fun k => k = Bw ∨ vo.ownBlock = some k) w w' ∧
    (vo'.ownBlock = vo.ownBlock ∨ ∃ g, w.heap.size ≤ g ∧ vo'.ownBlock = some g) ∧ (0 < n + m → vo' ≠ .slice none 0 0)

section
variable {f : List Nd} {s : List Int} {A A' : Option Addr} {c c' Bw : Nat} {w w1 w2 : World} {vo : Value} {n m m' : Nat} {xs news news' : List Value} {en : Ending}
theorem WIn.tch {S : Nat → Prop} (h : WIn f s A A' c c' Bw w vo n xs) (ht : Tch S w w1) (h0 : ∀ k, S k → Bw < k) (h1 : ∀ g, vo.ownBlock = some g → ¬ S g) : WIn f s A A' c c' Bw w1 vo n xs := by
  obtain ⟨a, b, d, e⟩ := h
  have hlt := (Array.getElem?_eq_some_iff.1 a).1
  exact ⟨ht.blk a (fun h => by have := h0 _ h; omega), own_tch b ht h1, d.tch ht (by omega) (fun k hk h => by have := h0 _ h; omega), e.tch ht (by omega) (fun k hk h => by have := h0 _ h; omega)⟩
theorem WIn.alloc (h : WIn f s A A' c c' Bw w vo n xs) (o : Obj) : WIn f s A A' c c' Bw (w.alloc o) vo n xs :=
  h.tch ((Tch.refl (fun _ => False) w).alloc o) (fun _ h => h.elim) (fun _ _ h => h)
/-- Behind a first part, a second one. -/
theorem wout_then {vo1 : Value} (ht1 : Tch (fun k => k = Bw ∨ vo.ownBlock = some k) w w1) (hat1 : vo1.ownBlock = vo.ownBlock ∨ ∃ g, w.heap.size ≤ g ∧ vo1.ownBlock = some g)
    (h2 : WOut f s A A' c c' Bw w1 vo1 (n + m) (xs ++ news) m' news' en w2) : WOut f s A A' c c' Bw w vo n xs (m + m') (news ++ news') en w2 := by
  obtain ⟨vo2, he, hin2, ht2, hat2, hne2⟩ := h2
  refine ⟨vo2, he, by rw [← Nat.add_assoc, ← List.append_assoc]; exact hin2, ?_, ?_, by rw [← Nat.add_assoc]; exact hne2⟩
  · refine Tch.trans ht1 ht2 (fun i hi h => ?_)
    rcases h with h | h
    · exact .inl h
    · rcases hat1 with h' | ⟨g, hg, h'⟩
      · exact .inr (h' ▸ h)
      · rw [h'] at h; cases h; omega
  · rcases hat2 with h | ⟨g, hg, h⟩
    · rcases hat1 with h' | ⟨g', hg', h'⟩
      · exact .inl (h.trans h')
      · exact .inr ⟨g', hg', h.trans h'⟩
    · exact .inr ⟨g, by have := ht1.size; omega, h⟩
/-- A block laid ahead of it plays no part. -/
theorem WOut.behind (o : Obj) (h : WOut f s A A' c c' Bw (w.alloc o) vo n xs m news en w1) : WOut f s A A' c c' Bw w vo n xs m news en w1 := by
  obtain ⟨vo1, he, hin, ht, hat, hne⟩ := h
  refine ⟨vo1, he, hin, Tch.trans ((Tch.refl _ w).alloc o) ht (fun _ _ h => h), ?_, hne⟩
  rcases hat with h | ⟨g, hg, h⟩
  · exact .inl h
  · exact .inr ⟨g, by simp at hg; omega, h⟩
end

theorem push_out {f : List Nd} {s : List Int} {A A' : Option Addr} {c c' Bw : Nat} {w w1 : World} {vo v1 : Value} {n : Nat} {xs news : List Value} {o : Obj} (hin : WIn f s A A' c c' Bw w vo n xs)
    (hown1 : w1.ownsRow (Bw + 1) 38 2 v1 (n + 1) (xs ++ news)) (ht1 : Tch (fun k => vo.ownBlock = some k) (w.alloc o) w1) (hat1 : v1.ownBlock = vo.ownBlock ∨ v1.ownBlock = some (w.alloc o).heap.size) (hne1 : v1 ≠ .slice none 0 0) :
    w1.heap[Bw]? = some (.cells #[.slice A f.length c, .slice A' s.length c', vo] 87 (0, 0)) ∧
      WOut f s A A' c c' Bw w vo n xs 1 news (.returned (.tuple #[])) (w1.setCell ⟨Bw, 2, none⟩ v1) := by
  obtain ⟨hb, hown, hf, hs⟩ := hin
  have hlt := (Array.getElem?_eq_some_iff.1 hb).1
  have hb1 : w1.heap[Bw]? = some (.cells #[.slice A f.length c, .slice A' s.length c', vo] 87 (0, 0)) := ht1.blk ((Below.heap_alloc _ _ _ hlt).trans hb) (fun h => by have := (hown.lt _ h).1; omega)
  have ht : Tch (fun k => k = Bw ∨ vo.ownBlock = some k) w (w1.setCell ⟨Bw, 2, none⟩ v1) :=
    Tch.setCell (p := ⟨Bw, 2, none⟩) (Tch.trans ((Tch.refl (fun k => k = Bw ∨ vo.ownBlock = some k) w).alloc o) ht1 (fun i _ h => .inr h)) (fun _ => .inl rfl) v1
  refine ⟨hb1, v1, rfl, ⟨set3 hb1, ?_, ?_, ?_⟩, ht, ?_, fun _ => hne1⟩
  · exact ownsRow_setCell_other (a := ⟨Bw, 2, none⟩) hown1 (fun h => absurd (hown1.lt _ h).1 (Nat.not_succ_le_self Bw)) v1
  · exact hf.tch ht (by omega) (fun k hk h => by
      rcases h with h | h
      · omega
      · have := (hown.lt _ h).1; omega)
  · exact hs.tch ht (by omega) (fun k hk h => by
      rcases h with h | h
      · omega
      · have := (hown.lt _ h).1; omega)
  · rcases hat1 with h | h
    · exact .inl h
    · exact .inr ⟨_, by simp, h⟩

set_option maxHeartbeats 1000000 in
theorem leafW_any (f : List Nd) (s : List Int) (A A' : Option Addr) (c c' Bw : Nat) (op : Int) (w : World) (vo : Value) (n : Nat) (xs : List Value) (hin : WIn f s A A' c c' Bw w vo n xs) (hn : n ≤ 1000000000) :
    Calls Try.prog 72 #[.pointer (some ⟨Bw, 0, none⟩), .int .i64 op] w (WOut f s A A' c c' Bw w vo n xs 1 [.int .i64 op, .int .i64 0]) := by
  have hin0 := hin
  obtain ⟨hb, hown, hf, hs⟩ := hin
  obtain ⟨q0, q1, q2, q3⟩ := cells3 hb
  have hlt := (Array.getElem?_eq_some_iff.1 hb).1
  go_enter Try.func72, Try.ntmps72
  go_wp2_with (at_builtin; refine wpList_push rfl (.tmp 8) (.tmp 11) 22 rfl (Bw + 1) 38 2 16 sliceNd _ _ _ (hown.alloc _) rfl w.heap.size #[.int .i64 op, .int .i64 0] rfl (heap_alloc_new w _) rfl (by simp [Value.oneCell']) (by omega) (by omega) (by simp; omega) ?_; intro v1 w1 hown1 ht1 hat1 hne1; obtain ⟨hb1, hout⟩ := push_out hin0 hown1 ht1 hat1 hne1; obtain ⟨_, _, r2, r3⟩ := cells3 hb1; obtain ⟨g1, cap1, rfl, _⟩ := own_form hown1 (by omega))
  go_end0
  exact hout

theorem pick_any (no : Bool) (a b : Int) (w : World) : Calls Try.prog 73 #[.bool no, .int .i64 a, .int .i64 b] w fun e w' => e = .returned (.int .i64 (if no then b else a)) ∧ w = w' := by
  cases no
  all_goals
    go_enter Try.func73, Try.ntmps73
    go_wp2
    go_ret
    exact ⟨rfl, rfl⟩
end Go.Proofs.Ytedohmcnjlhdnaa
