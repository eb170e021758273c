/- The walk of layer 23: the closure of spans. -/
import Derived.Test.YtamhjgkigjpbhaaDoorLtl1
import Derived.Test.YtamhjgkigjpbhaaDoorMd
namespace Go.Proofs.YtamhjgkigjpbhaaDoor
open Go.RowKit

/-- What the closure of spans leaves. -/
def SpanPost (w : World) (base Bx : Nat) (vo : Value) (b : Int) (outs : List Int) (en : Ending) (w' : World) : Prop :=
  ∃ vo', en = .returned (.int .i64 b) ∧ w'.heap[Bx]? = some (.cells #[vo'] 25 (0, 0)) ∧ w'.ownsRow base 3 1 vo' (outs.length + 1) (icells (outs ++ [b])) ∧
    Tch (fun k => k = Bx ∨ vo.ownBlock = some k) w w' ∧ (vo'.ownBlock = vo.ownBlock ∨ ∃ g, w.heap.size ≤ g ∧ vo'.ownBlock = some g)

set_option maxHeartbeats 1000000 in
theorem span1_any (at_ : Int) (A : Option Addr) (m c : Nat) (parts : List Int) (hm : m = parts.length) (Bx : Nat) (vo : Value) (outs : List Int) (w : World) (B base : Nat) (hp : Sl w B 1 A m c (icells parts))
    (hbox : w.heap[Bx]? = some (.cells #[vo] 25 (0, 0))) (hown : w.ownsRow base 3 1 vo outs.length (icells outs)) (hbase : base ≤ w.heap.size) (hn : outs.length ≤ 1000000000) :
    Calls Tryd.prog 73 #[.int .i64 at_, .slice A m c, .pointer (some ⟨Bx, 0, none⟩)] w (SpanPost w base Bx vo (frm at_ parts) outs) := by
  subst hm
  have hlt := lt_of_block hbox
  have hne := own_ne_blk hown hbox (by decide)
  have key : ∀ (x : Int) (v1 : Value) (w1 : World), w1.ownsRow base 3 1 v1 (outs.length + 1) (icells outs ++ [.int .i64 x]) → Tch (fun k => vo.ownBlock = some k) (w.alloc (.cells #[.int .i64 x] 3)) w1 →
      (v1.ownBlock = vo.ownBlock ∨ v1.ownBlock = some (w.alloc (.cells #[.int .i64 x] 3)).heap.size) →
      w1.heap[Bx]? = some (.cells #[vo] 25 (0, 0)) ∧ SpanPost w base Bx vo x outs (.returned (.int .i64 x)) (w1.setCell ⟨Bx, 0, none⟩ v1) := by
    intro x v1 w1 hown1 ht1 hat1
    have hb1 : w1.heap[Bx]? = some (.cells #[vo] 25 (0, 0)) := ht1.blk ((Below.heap_alloc _ _ _ hlt).trans hbox) hne
    refine ⟨hb1, v1, rfl, one_setCell hb1, ?_, ?_, ?_⟩
    · rw [icells_append]
      exact ownsRow_setCell_other (a := ⟨Bx, 0, none⟩) hown1 (own_ne_blk hown1 hb1 (by decide)) v1
    · refine Tch.setCell (p := ⟨Bx, 0, none⟩) ?_ (fun _ => .inl rfl) v1
      exact Tch.trans ((Tch.refl (fun k => k = Bx ∨ vo.ownBlock = some k) w).alloc _) ht1 (fun i _ h => .inr h)
    · rcases hat1 with h | h
      · exact .inl h
      · exact .inr ⟨_, by simp, h⟩
  have hc0 := cell_of_one hbox
  by_cases h0 : parts = []
  · subst h0
    have hd : decide ((0 : Int) < (([] : List Int).length : Int)) = false := rfl
    go_enter Tryd.func73, Tryd.ntmps73
    go_wp2_with (at_builtin; refine wpList_push rfl (.tmp 14) (.tmp 16) 25 rfl base 3 1 8 sliceInt vo outs.length (icells outs) (hown.alloc _) rfl w.heap.size #[.int .i64 at_] rfl (heap_alloc_new w _) rfl (by simp [Value.oneCell']) (by omega) (by omega) (by simp; omega) ?_; intro v1 w1 hown1 ht1 hat1 _; obtain ⟨hb1, hpost⟩ := key _ v1 w1 hown1 ht1 hat1; have hf1 := free_of_one hb1; have hc1 := cell_of_one hb1; obtain ⟨g1, cap1, rfl, _⟩ := own_form hown1 (by omega))
    go_ret
    exact hpost
  · obtain ⟨p0, ps, rfl⟩ := List.exists_cons_of_ne_nil h0
    obtain ⟨b, off, rfl, _, hcell⟩ := rd_int hp.rd (k := 0) (by simp)
    simp only [List.getElem_cons_zero, Nat.add_zero] at hcell
    have hd : (0 : Int) < ((p0 :: ps).length : Int) := by simp
    have hd0 : 0 < (p0 :: ps).length := by simp
    generalize hlen : (p0 :: ps).length = n at *
    have Hlen := Lib.hid hlen
    clear hlen
    go_enter Tryd.func73, Tryd.ntmps73
    go_wp2_with (at_builtin; refine wpList_push rfl (.tmp 14) (.tmp 16) 25 rfl base 3 1 8 sliceInt vo outs.length (icells outs) (hown.alloc _) rfl w.heap.size #[.int .i64 p0] rfl (heap_alloc_new w _) rfl (by simp [Value.oneCell']) (by omega) (by omega) (by simp; omega) ?_; intro v1 w1 hown1 ht1 hat1 _; obtain ⟨hb1, hpost⟩ := key _ v1 w1 hown1 ht1 hat1; have hf1 := free_of_one hb1; have hc1 := cell_of_one hb1; obtain ⟨g1, cap1, rfl, _⟩ := own_form hown1 (by omega))
    go_ret
    exact hpost
end Go.Proofs.YtamhjgkigjpbhaaDoor
