/- The walk of the laws of layer 6: square. -/
import Derived.Test.YtfpncpjdmgfkbaaGrD
import Derived.Test.YtfpncpjdmgfkbaaMd
namespace Go.Proofs.Ytfpncpjdmgfkbaa
open Go.RowKit

theorem sl_blk {w : World} {b T n size : Nat} {cs : Array Value} {xs : List Value} {B : Nat} (h : w.heap[b]? = some (.cells cs T (0, 0))) (hx : cs.toList = xs) (hn : xs.length = n * size) (hm : n ≤ maxLen) (hb : b < B) : Sl w B size (some ⟨b, 0, none⟩) n n xs := by
  refine ⟨hn, Nat.le_refl _, hm, fun h => (by cases h), .inr ⟨b, 0, rfl, hb, fun j u hu => ?_⟩⟩
  rw [Nat.zero_add, cell_of_row w b j _ _ _ h]
  rw [← hx] at hu
  simpa using hu
/-- Several new blocks. -/
theorem heap_allocL : ∀ (l : List Obj) (w : World), (∀ i (hi : i < l.length), (l.foldl World.alloc w).heap[w.heap.size + i]? = some l[i]) ∧ Below w.heap.size w (l.foldl World.alloc w) ∧ (l.foldl World.alloc w).heap.size = w.heap.size + l.length
  | [], w => ⟨fun i hi => by simp at hi, Below.refl _ _, by simp⟩
  | o :: l, w => by
    obtain ⟨h1, h2, h3⟩ := heap_allocL l (w.alloc o)
    have hz : (w.alloc o).heap.size = w.heap.size + 1 := by simp
    refine ⟨fun i hi => ?_, (below_alW o).trans (h2.mono (by omega)), by rw [List.foldl_cons, h3, hz, List.length_cons]; omega⟩
    cases i with
    | zero => rw [List.foldl_cons, Nat.add_zero, h2.block w.heap.size (by omega)]; exact heap_alloc_new w o
    | succ i =>
      have := h1 i (by simpa using hi)
      rw [hz] at this
      rw [List.foldl_cons, show w.heap.size + (i + 1) = w.heap.size + 1 + i by omega, this]; rfl
def Gsq : Gph := ⟨[0], [[⟨2, 7⟩, ⟨1, 0⟩], [⟨3, 0⟩], [⟨3, 0⟩], []], [0, 0, 0, 0]⟩

set_option maxHeartbeats 1000000 in
set_option maxRecDepth 100000 in
theorem square_any (w : World) : Calls Try.prog 44 #[] w (fun e w' => ∃ ai ni ci ae ne ce al nl cl, e = .returned (.agg #[.slice ai ni ci, .slice ae ne ce, .slice al nl cl]) ∧ GrRd w' w'.heap.size ai ni ci ae ne ce al nl cl Gsq ∧ Below w.heap.size w w') := by
  have hmk := run_make_row' (P := Try.prog) 24 60 (.int .u64 0) 8 Try.underlying24 infoU rfl .i64 .i64 4 (by omega) (by omega)
  simp only [show ((4 : Nat) : Int) = 4 from rfl] at hmk
  go_enter Try.func44, Try.ntmps44
  go_wp2
  simp only [Nat.add_assoc, Nat.reduceAdd]
  refine bodyPost_ret (v := .agg #[.slice (some ⟨w.heap.size + 1, 0, none⟩) 1 1, .slice (some ⟨w.heap.size + 5, 0, none⟩) 4 4, .slice (some ⟨w.heap.size + 6, 0, none⟩) 4 4]) ?_ rfl ?_
  · have h0 := (heap_allocL [.cells #[.slice (some ⟨w.heap.size + 1, 0, none⟩) 1 1, .slice (some ⟨w.heap.size + 5, 0, none⟩) 4 4, .slice (some ⟨w.heap.size + 6, 0, none⟩) 4 4] 26, .cells #[.int .i64 0] 3, .cells #[.int .i64 2, .int .i64 7, .int .i64 1, .int .i64 0] 42, .cells #[.int .i64 3, .int .i64 0] 42, .cells #[.int .i64 3, .int .i64 0] 42, .cells #[.slice (some ⟨w.heap.size + 2, 0, none⟩) 2 2, .slice (some ⟨w.heap.size + 3, 0, none⟩) 1 1, .slice (some ⟨w.heap.size + 4, 0, none⟩) 1 1, .slice none 0 0] 34, .cells (madeCells #[.int .u64 0] 4) 60] w).1 0 (by simp)
    obtain ⟨⟨f0, f1, f2⟩, _, _⟩ := blk3 h0
    simp only [List.foldl_cons, List.foldl_nil, Nat.add_zero] at f0 f1 f2
    simp [results, Try.results44, go_sem, f0, f1, f2]
  · have hA := heap_allocL [.cells #[.slice (some ⟨w.heap.size + 1, 0, none⟩) 1 1, .slice (some ⟨w.heap.size + 5, 0, none⟩) 4 4, .slice (some ⟨w.heap.size + 6, 0, none⟩) 4 4] 26, .cells #[.int .i64 0] 3, .cells #[.int .i64 2, .int .i64 7, .int .i64 1, .int .i64 0] 42, .cells #[.int .i64 3, .int .i64 0] 42, .cells #[.int .i64 3, .int .i64 0] 42, .cells #[.slice (some ⟨w.heap.size + 2, 0, none⟩) 2 2, .slice (some ⟨w.heap.size + 3, 0, none⟩) 1 1, .slice (some ⟨w.heap.size + 4, 0, none⟩) 1 1, .slice none 0 0] 34, .cells (madeCells #[.int .u64 0] 4) 60] w
    simp only [List.foldl_cons, List.foldl_nil] at hA
    obtain ⟨h1, hb, hz⟩ := hA
    generalize (((((((w.alloc (.cells #[.slice (some ⟨w.heap.size + 1, 0, none⟩) 1 1, .slice (some ⟨w.heap.size + 5, 0, none⟩) 4 4, .slice (some ⟨w.heap.size + 6, 0, none⟩) 4 4] 26)).alloc (.cells #[.int .i64 0] 3)).alloc (.cells #[.int .i64 2, .int .i64 7, .int .i64 1, .int .i64 0] 42)).alloc (.cells #[.int .i64 3, .int .i64 0] 42)).alloc (.cells #[.int .i64 3, .int .i64 0] 42)).alloc (.cells #[.slice (some ⟨w.heap.size + 2, 0, none⟩) 2 2, .slice (some ⟨w.heap.size + 3, 0, none⟩) 1 1, .slice (some ⟨w.heap.size + 4, 0, none⟩) 1 1, .slice none 0 0] 34)).alloc (.cells (madeCells #[.int .u64 0] 4) 60)) = W at *
    simp at hz
    have b1 := h1 1 (by simp)
    have b2 := h1 2 (by simp)
    have b3 := h1 3 (by simp)
    have b4 := h1 4 (by simp)
    have b5 := h1 5 (by simp)
    have b6 := h1 6 (by simp)
    refine ⟨_, _, _, _, _, _, _, _, _, rfl, ⟨sl_blk (T := 3) (cs := #[.int .i64 0]) b1 rfl (by decide) (by decide) (by omega), ⟨_, sl_blk (T := 34) (cs := #[.slice (some ⟨w.heap.size + 2, 0, none⟩) 2 2, .slice (some ⟨w.heap.size + 3, 0, none⟩) 1 1, .slice (some ⟨w.heap.size + 4, 0, none⟩) 1 1, .slice none 0 0]) b5 rfl (by simp) (by decide) (by omega), by simp [Gsq], fun j ys hj => ?_⟩, sl_blk (T := 60) b6 (toList_madeCells_one _ _) (by decide) (by decide) (by omega)⟩, hb⟩
    match j, hj with
    | 0, hj => simp [Gsq, ncells] at hj; subst hj; exact ⟨_, 2, 2, rfl, sl_blk (T := 42) b2 rfl (by decide) (by decide) (by omega)⟩
    | 1, hj => simp [Gsq, ncells] at hj; subst hj; exact ⟨_, 1, 1, rfl, sl_blk (T := 42) b3 rfl (by decide) (by decide) (by omega)⟩
    | 2, hj => simp [Gsq, ncells] at hj; subst hj; exact ⟨_, 1, 1, rfl, sl_blk (T := 42) b4 rfl (by decide) (by decide) (by omega)⟩
    | 3, hj => simp [Gsq, ncells] at hj; subst hj; exact ⟨_, 0, 0, rfl, Sl.none_ _ _ _⟩
    | n + 4, hj => simp [Gsq] at hj
end Go.Proofs.Ytfpncpjdmgfkbaa
