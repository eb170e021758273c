/- The walk of the laws of fix: heavy. -/
import Derived.Test.YtfpncpjdmgfkbaaFx18
namespace Go.Proofs.Ytfpncpjdmgfkbaa
open Go.RowKit

def heavyF (G : Gph) (sets : List (List Bool)) : Bool :=
  decide (60 < G.edges.length) || (decide (60 < G.init.length) || (decide (8 < sets.length) || (G.edges.any (fun l => decide (30 < l.length)) || sets.any (fun s => decide (120 < s.length)))))
theorem heavyF_bd {G : Gph} {sets : List (List Bool)} (h : heavyF G sets = false) : G.edges.length ≤ 60 ∧ G.init.length ≤ 60 ∧ sets.length ≤ 8 ∧ (∀ l ∈ G.edges, l.length ≤ 30) ∧ ∀ s ∈ sets, s.length ≤ 120 := by
  simp only [heavyF, Bool.or_eq_false_iff, decide_eq_false_iff_not, List.any_eq_false] at h
  obtain ⟨h1, h2, h3, h4, h5⟩ := h
  exact ⟨by omega, by omega, by omega, fun l hl => by have := h4 l hl; simp at this; omega, fun l hl => by have := h5 l hl; simp at this; omega⟩
theorem any_snoc' {α : Type} {l : List α} {p : α → Bool} {k : Nat} (hk : k < l.length) : (l.take (k + 1)).any p = ((l.take k).any p || p l[k]) := by
  rw [take_snoc l k hk, List.any_append]; simp
theorem any_of' {α : Type} {l : List α} {p : α → Bool} {k : Nat} (hk : k < l.length) (h : p l[k] = true) : l.any p = true := List.any_eq_true.2 ⟨_, List.getElem_mem hk, h⟩

section
variable (ai ae al : Option Addr) (ni ci ne ce nl cl : Nat)
set_option maxHeartbeats 2000000 in
theorem heavyF_any (G : Gph) (sets : List (List Bool)) (As : Option Addr) (ns cs : Nat) (w : World) (B : Nat) (h : GrRd w B ai ni ci ae ne ce al nl cl G) (hs : Sl2 w B 1 As ns cs (sets.map bcells)) (hB : B ≤ w.heap.size) :
    Calls Try.prog 34 #[.agg #[.slice ai ni ci, .slice ae ne ce, .slice al nl cl], .slice As ns cs] w (Tru w (heavyF G sets)) := by
  obtain ⟨w0, hw0, hb0, hz0, hx0, hx1, hx2⟩ := boxed3 w (.slice ai ni ci) (.slice ae ne ce) (.slice al nl cl) 26
  have HW0 := Lib.hid hw0
  have h' := h.below hb0 hB
  have hs' := hs.below hb0 hB
  obtain ⟨L1, L2, L3⟩ := h.lens
  have L4 : ns = sets.length := by have := hs.len; simpa using this
  have H1 := Lib.hid L1
  have H2 := Lib.hid L2
  have H4 := Lib.hid L4
  have hzl : w.heap.size < w0.heap.size := by omega
  have hd : heavyF G sets = (decide (60 < ne) || (decide (60 < ni) || (decide (8 < ns) || (G.edges.any (fun l => decide (30 < l.length)) || sets.any (fun s => decide (120 < s.length)))))) := by rw [heavyF, L1, L2, L4]
  have HD := Lib.hid hd
  clear hw0 hz0 L1 L2 L3 L4 h hs hd
  by_cases c1 : 60 < ne
  · have d1 : decide ((60 : Int) < (ne : Int)) = true := by simp; omega
    have HR : Hid (heavyF G sets = true) := Lib.hid (by rw [HD.out, decide_eq_true c1, Bool.true_or])
    clear c1
    go_enter Try.func34, Try.ntmps34
    go_wp2_with fail
    rw [← HW0.out]
    go_wp2
    go_ret
    exact ⟨ret_bool (by simp [HR.out]), hb0⟩
  · have d1 : decide ((60 : Int) < (ne : Int)) = false := by simp; omega
    by_cases c2 : 60 < ni
    · have d2 : decide ((60 : Int) < (ni : Int)) = true := by simp; omega
      have HR : Hid (heavyF G sets = true) := Lib.hid (by rw [HD.out, decide_eq_false c1, decide_eq_true c2, Bool.true_or, Bool.or_true])
      clear c1 c2
      go_enter Try.func34, Try.ntmps34
      go_wp2_with fail
      rw [← HW0.out]
      go_wp2
      go_ret
      exact ⟨ret_bool (by simp [HR.out]), hb0⟩
    · have d2 : decide ((60 : Int) < (ni : Int)) = false := by simp; omega
      by_cases c3 : 8 < ns
      · have d3 : decide ((8 : Int) < (ns : Int)) = true := by simp; omega
        have HR : Hid (heavyF G sets = true) := Lib.hid (by rw [HD.out, decide_eq_false c1, decide_eq_false c2, decide_eq_true c3]; rfl)
        clear c1 c2 c3
        go_enter Try.func34, Try.ntmps34
        go_wp2_with fail
        rw [← HW0.out]
        go_wp2
        go_ret
        exact ⟨ret_bool (by simp [HR.out]), hb0⟩
      · have d3 : decide ((8 : Int) < (ns : Int)) = false := by simp; omega
        have hd' : heavyF G sets = (G.edges.any (fun l => decide (30 < l.length)) || sets.any (fun s => decide (120 < s.length))) := by rw [HD.out, decide_eq_false c1, decide_eq_false c2, decide_eq_false c3]; rfl
        have HD' := Lib.hid hd'
        clear hd' HD
        go_enter Try.func34, Try.ntmps34
        go_wp2_with fail
        rw [← HW0.out]
        go_wp2
        clear d1 d2 d3
        go_loopw [5] (fun i wr => ∃ k : Nat, k ≤ ne ∧ i = .int .i64 k ∧ wr = w0 ∧ Hid ((G.edges.take k).any (fun l => decide (30 < l.length)) = false)) (fun i _ => ne - (intOf i).toNat)
        case atStart => exact ⟨0, by omega, rfl, by trivial, Lib.hid rfl⟩
        case round =>
          obtain ⟨k, hk, rfl, rfl, ht⟩ := hrel
          by_cases hlt : k < ne
          · have hkE : k < G.edges.length := by rw [← H2.out]; exact hlt
            obtain ⟨b, o, A', n', c', rfl, hbb, hc0, hrow⟩ := h'.he.at_ (ed_take hkE)
            have hn' : n' = G.edges[k].length := by have := hrow.len; rw [ncells_len] at this; omega
            have hs1 := any_snoc' (p := fun l : List Nd => decide (30 < l.length)) hkE
            have hof := fun h => any_of' (p := fun l : List Nd => decide (30 < l.length)) hkE h
            rw [← hn'] at hs1 hof
            have HS := Lib.hid hs1
            have HO := Lib.hid hof
            clear hs1 hof hn' hrow
            by_cases hcc : 30 < n'
            · have d4 : decide ((30 : Int) < (n' : Int)) = true := by simp; omega
              have HC := Lib.hid (HO.out (decide_eq_true hcc))
              clear hcc
              go_wp2
              go_ret
              exact ⟨ret_bool (by simp [HD'.out, HC.out]), hb0⟩
            · have d4 : decide ((30 : Int) < (n' : Int)) = false := by simp; omega
              have HC := Lib.hid (decide_eq_false hcc)
              clear hcc
              go_wp2
              go_roundw
              case rel => exact ⟨k + 1, by omega, by go_num, by trivial, Lib.hid (by rw [HS.out, ht.out, HC.out]; rfl)⟩
              case measure => simp [intOf]; omega
          · have HT : Hid (G.edges.any (fun l => decide (30 < l.length)) = false) := Lib.hid (by have := ht.out; rwa [List.take_of_length_le (by rw [← H2.out]; omega)] at this)
            have dk : decide (k < ne) = false := by simpa using hlt
            clear ht
            go_wp2
            go_loopw [6] (fun i w1 => ∃ k : Nat, k ≤ ns ∧ i = .int .i64 k ∧ w1 = wr ∧ Hid ((sets.take k).any (fun s => decide (120 < s.length)) = false)) (fun i _ => ns - (intOf i).toNat)
            case atStart => exact ⟨0, by omega, rfl, by trivial, Lib.hid rfl⟩
            case round =>
              obtain ⟨k, hk, rfl, hwe, ht⟩ := hrel
              subst hwe
              by_cases hlt : k < ns
              · have hkS : k < sets.length := by rw [← H4.out]; exact hlt
                obtain ⟨b, o, A', n', c', hAe, hbb, hc0, hrow⟩ := hs'.at_ (j := k) (ys := bcells sets[k]) (by simp [hkS])
                subst hAe
                have hn' : n' = sets[k].length := by have := hrow.len; simpa [bcells] using this.symm
                have hs1 := any_snoc' (p := fun s : List Bool => decide (120 < s.length)) hkS
                have hof := fun h => any_of' (p := fun s : List Bool => decide (120 < s.length)) hkS h
                rw [← hn'] at hs1 hof
                have HS := Lib.hid hs1
                have HO := Lib.hid hof
                clear hs1 hof hn' hrow
                by_cases hcc : 120 < n'
                · have d4 : decide ((120 : Int) < (n' : Int)) = true := by simp; omega
                  have HC := Lib.hid (HO.out (decide_eq_true hcc))
                  clear hcc
                  go_wp2
                  go_ret
                  exact ⟨ret_bool (by simp [HD'.out, HC.out]), hb0⟩
                · have d4 : decide ((120 : Int) < (n' : Int)) = false := by simp; omega
                  have HC := Lib.hid (decide_eq_false hcc)
                  clear hcc
                  go_wp2
                  go_roundw
                  case rel => exact ⟨k + 1, by omega, by go_num, by trivial, Lib.hid (by rw [HS.out, ht.out, HC.out]; rfl)⟩
                  case measure => simp [intOf]; omega
              · have HT2 : Hid (sets.any (fun s => decide (120 < s.length)) = false) := Lib.hid (by have := ht.out; rwa [List.take_of_length_le (by rw [← H4.out]; omega)] at this)
                clear ht
                go_wp2
                go_ret
                exact ⟨ret_bool (by simp [HD'.out, HT.out, HT2.out]), hb0⟩
end
end Go.Proofs.Ytfpncpjdmgfkbaa
