/- The walks of fix: edge, leads. -/
import Derived.Test.YtfpncpjdmgfkbaaFx3
namespace Go.Proofs.Ytfpncpjdmgfkbaa
open Go.RowKit

def edgeB (l : List Nd) (b : Int) : Bool := l.any (fun e => decide (e.op = b))
theorem edgeB_succ {l : List Nd} {k : Nat} (hk : k < l.length) (b : Int) : edgeB (l.take (k + 1)) b = (edgeB (l.take k) b || decide (l[k].op = b)) := by
  rw [take_snoc l k hk, edgeB, List.any_append, List.any_cons, List.any_nil, Bool.or_false, edgeB]
theorem edgeB_of {l : List Nd} {k : Nat} (hk : k < l.length) {b : Int} (h : decide (l[k].op = b) = true) : edgeB l b = true := List.any_eq_true.2 ⟨_, List.getElem_mem hk, h⟩

section
variable (ai ae al : Option Addr) (ni ci ne ce nl cl : Nat)
set_option maxHeartbeats 1000000 in
theorem edge_any (G : Gph) (a : Nat) (t : Int) (w : World) (B : Nat) (h : GrRd w B ai ni ci ae ne ce al nl cl G) (hB : B ≤ w.heap.size) (ha : a < ne) (_hne : ne ≤ 1000000000) (hr : ∀ l ∈ G.edges, l.length ≤ 1000000000) :
    Calls Try.prog 77 #[.agg #[.slice ai ni ci, .slice ae ne ce, .slice al nl cl], .int .i64 (a : Int), .int .i64 t] w (Tru w (edgeB (G.edges.getD a []) t)) := by
  obtain ⟨w0, hw0, hb0, hz0, _, hx1, _⟩ := boxed3 w (.slice ai ni ci) (.slice ae ne ce) (.slice al nl cl) 26
  have HW0 := Lib.hid hw0
  clear hw0
  have h' := h.below hb0 hB
  obtain ⟨L1, L2, L3⟩ := h.lens
  have hal : a < G.edges.length := by omega
  obtain ⟨b, o, A', n', c', rfl, hbb, hc0, hrow⟩ := h'.he.at_ (ed_take hal)
  have hlen := hr G.edges[a] (List.getElem_mem hal)
  have hnx : n' = G.edges[a].length := by have := hrow.len; rw [ncells_len] at this; omega
  have hxr : G.edges.getD a [] = G.edges[a] := by simp [List.getD, hal]
  rw [hxr]
  clear hxr
  generalize G.edges[a] = x at *
  subst hnx
  have i0 : (0 : Int) ≤ (a : Int) := by omega
  have i1 : (a : Int) < (ne : Int) := by omega
  clear L1 L2 L3 h h'
  go_enter Try.func77, Try.ntmps77
  go_wp2
  rw [← HW0.out]
  clear HW0
  go_loopw [7] (fun i wr => ∃ m : Nat, m ≤ x.length ∧ i = .int .i64 m ∧ wr = w0 ∧ Hid (edgeB (x.take m) t = false)) (fun i _ => x.length - (intOf i).toNat)
  case atStart => exact ⟨0, by omega, rfl, by trivial, Lib.hid rfl⟩
  case round =>
    obtain ⟨m, hm, rfl, rfl, ht⟩ := hrel
    by_cases hlt : m < x.length
    · obtain ⟨bb, oo, rfl, hbbb, hd0, hd1⟩ := rd_nd hrow.rd hlt
      have hs := edgeB_succ hlt t
      have hof := fun h => edgeB_of (b := t) hlt h
      generalize x[m] = e at *
      obtain ⟨op, act⟩ := e
      dsimp only at *
      have HS := Lib.hid hs
      have HO := Lib.hid hof
      clear hs hof
      have d1 : decide ((m : Int) < (x.length : Int)) = true := by simp; omega
      by_cases heq : op = t
      · subst heq
        have e1 : (op == op) = true := by simp
        go_wp2
        go_ret
        exact ⟨ret_bool (by simp [HO.out (by simp)]), hb0⟩
      · have e1 : (op == t) = false := by simpa using heq
        have HE := Lib.hid heq
        clear heq
        go_wp2
        go_roundw
        case rel => exact ⟨m + 1, by omega, by go_num, by trivial, Lib.hid (by rw [HS.out, ht.out]; simpa using HE.out)⟩
        case measure => simp [intOf]; omega
    · have hkn : m = x.length := by omega
      have ht' := ht.out
      rw [hkn, List.take_length] at ht'
      have HT := Lib.hid ht'
      clear ht' hkn
      go_wp2
      go_ret
      exact ⟨ret_bool (by simp [HT.out]), hb0⟩
end
end Go.Proofs.Ytfpncpjdmgfkbaa
