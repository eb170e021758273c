/- The walks of layer 27: parts, formula, Long, next, heavy. -/
import Derived.Test.YtkikkplpalabhaaWk1
import Derived.Test.YtkikkplpalabhaaLtl5
namespace Go.Proofs.Ytkikkplpalabhaa
open Go.RowKit

/-- How many parts an operation takes, a proposition's number looked at. -/
def partsW (x : Nd) : Int := if x.op = 3 ∧ ¬ (0 ≤ x.n ∧ x.n < 8) then -1 else takes x.op
theorem partsW_bad {x : Nd} {d : Nat} : bad x d = 0 ↔ 0 ≤ partsW x ∧ partsW x ≤ (d : Int) := by
  have hb := takes_bd x.op
  constructor
  · intro h
    obtain ⟨h0, h1, h3⟩ := good_takes h
    unfold partsW
    rw [if_neg (fun hh => hh.2 (h3 hh.1))]
    exact ⟨h0, h1⟩
  · rintro ⟨h0, h1⟩
    unfold partsW at h0 h1
    by_cases h3 : x.op = 3 ∧ ¬ (0 ≤ x.n ∧ x.n < 8)
    · rw [if_pos h3] at h0; omega
    · rw [if_neg h3] at h0 h1
      refine bad_none h0 h1 ?_
      by_cases e : x.op = 3
      · exact .inr (Classical.byContradiction fun hh => h3 ⟨e, hh⟩)
      · exact .inl e
theorem op_cases (op : Int) : op = 1 ∨ op = 2 ∨ op = 3 ∨ op = 4 ∨ op = 5 ∨ op = 6 ∨ op = 7 ∨ op = 8 ∨ op = 9 ∨ op = 10 ∨ op = 11 ∨ op = 12 ∨ (op < 1 ∨ 12 < op) := by omega
set_option maxHeartbeats 1000000 in
theorem parts27_any (op m : Int) (w : World) : Calls Try.prog 64 #[.agg #[.int .i64 op, .int .i64 m]] w (Num w (partsW ⟨op, m⟩)) := by
  have hb : Below w.heap.size w (w.alloc (.cells #[.int .i64 op, .int .i64 m] 42)) := (Below.refl _ _).alloc (Nat.le_refl _) _
  by_cases h3 : op = 3
  · subst h3
    by_cases h0 : 0 ≤ m
    · have d0 : decide (0 ≤ m) = true := by simpa using h0
      cases d1 : decide (m < 8)
      · have e : partsW ⟨3, m⟩ = -1 := by simp [partsW, h0]; intro h; simp at d1; omega
        rw [e]
        clear e h0
        go_enter Try.func64, Try.ntmps64
        go_wp2
        go_ret
        exact ⟨rfl, hb⟩
      · have e : partsW ⟨3, m⟩ = 0 := by simp at d1; simp [partsW, h0, d1, takes]
        rw [e]
        clear e h0
        go_enter Try.func64, Try.ntmps64
        go_wp2
        go_ret
        exact ⟨rfl, hb⟩
    · have d0 : decide (0 ≤ m) = false := by simpa using h0
      have e : partsW ⟨3, m⟩ = -1 := by simp [partsW, h0]
      rw [e]
      clear e h0
      go_enter Try.func64, Try.ntmps64
      go_wp2
      go_ret
      exact ⟨rfl, hb⟩
  have e : partsW ⟨op, m⟩ = takes op := by simp [partsW, h3]
  rw [e]
  clear e
  rcases op_cases op with rfl | rfl | rfl | rfl | rfl | rfl | rfl | rfl | rfl | rfl | rfl | rfl | h
  case inr.inr.inl => exact absurd rfl h3
  case inr.inr.inr.inr.inr.inr.inr.inr.inr.inr.inr.inr =>
    have ht : takes op = -1 := by unfold takes; (repeat' split) <;> omega
    have n1 : (op == 1) = false := by simp; omega
    have n2 : (op == 2) = false := by simp; omega
    have n3 : (op == 3) = false := by simp; omega
    have n4 : (op == 4) = false := by simp; omega
    have n5 : (op == 5) = false := by simp; omega
    have n6 : (op == 6) = false := by simp; omega
    have n7 : (op == 7) = false := by simp; omega
    have n8 : (op == 8) = false := by simp; omega
    have n9 : (op == 9) = false := by simp; omega
    have n10 : (op == 10) = false := by simp; omega
    have n11 : (op == 11) = false := by simp; omega
    have n12 : (op == 12) = false := by simp; omega
    rw [ht]
    clear ht h h3
    go_enter Try.func64, Try.ntmps64
    go_wp2
    go_ret
    exact ⟨rfl, hb⟩
  all_goals
    clear h3
    go_enter Try.func64, Try.ntmps64
    go_wp2
    go_ret
    exact ⟨rfl, hb⟩

/-- How deep the stack is ahead of node k, if all went well. -/
theorem scan_more {f : List Nd} {k d : Nat} (hk : k < f.length) (hs : scan (f.take k) 0 = (0, d)) (hp : 0 ≤ partsW f[k]) (hd : partsW f[k] ≤ (d : Int)) :
    scan (f.take (k + 1)) 0 = (0, d - (partsW f[k]).toNat + 1) := by
  have hb := partsW_bad.2 ⟨hp, hd⟩
  have e : partsW f[k] = takes f[k].op := by
    unfold partsW
    rw [if_neg (fun hh => hh.2 ((good_takes hb).2.2 hh.1))]
  rw [e]
  exact scan_ok hk hs hb
theorem scan_stop {f : List Nd} {k d : Nat} (hk : k < f.length) (hs : scan (f.take k) 0 = (0, d)) (hp : partsW f[k] < 0 ∨ (d : Int) < partsW f[k]) : wrong f ≠ 0 := by
  have hb : bad f[k] d ≠ 0 := fun h => by have := partsW_bad.1 h; omega
  rw [(scan_bad hk hs hb).1]; exact hb
theorem scan_last {f : List Nd} {d : Nat} (hs : scan f 0 = (0, d)) : (wrong f == 0) = (((d : Int)) == 1) := by
  by_cases hf : f = []
  · subst hf
    simp [scan] at hs
    subst hs
    rfl
  · have hw := wrong_end hf hs
    have hr := runs_stack hs
    have hd : 1 ≤ d := by
      rw [← hr]
      have hne : f ≠ [] := hf
      obtain ⟨g, x, rfl⟩ : ∃ g x, f = g ++ [x] := ⟨f.dropLast, f.getLast hne, (List.dropLast_concat_getLast hne).symm⟩
      rw [runs, List.foldl_append]
      simp [stp]
    rw [hw, Bool.eq_iff_iff]
    split <;> simp <;> omega
set_option maxHeartbeats 2000000 in
theorem formula_any (A : Option Addr) (c : Nat) (f : List Nd) (w : World) (B : Nat) (hf : Sl w B 2 A f.length c (ncells f)) (hB : B ≤ w.heap.size) (hl : f.length ≤ 100000) :
    Calls Try.prog 63 #[.slice A f.length c] w (Tru w (wrong f == 0)) := by
  by_cases h24 : f.length ≤ 24
  · have d : decide (f.length ≤ 24) = true := by simpa using h24
    have d' : decide ((f.length : Int) ≤ 24) = true := by simp; omega
    have hc := Check_any A c f w B hf hB (by omega)
    have e : check f = wrong f := by rw [check, if_neg (by omega)]
    rw [e] at hc
    have HC := Lib.hid hc
    clear hc e h24
    generalize wrong f = k at *
    go_enter Try.func63, Try.ntmps63
    go_wp2_with fail
    refine Calls.mono HC.out ?_
    rintro e w1 ⟨rfl, hb1⟩
    go_wp2
    go_ret
    exact ⟨rfl, hb1⟩
  · have d' : decide ((f.length : Int) ≤ 24) = false := by simp; omega
    clear h24
    go_enter Try.func63, Try.ntmps63
    go_wp2
    go_loopw [3, 15] (fun n i wr => ∃ k d : Nat, k ≤ f.length ∧ d ≤ k ∧ i = .int .i64 k ∧ n = .int .i64 d ∧ Hid (scan (f.take k) 0 = (0, d)) ∧ Below w.heap.size w wr) (fun _ i _ => f.length - (intOf i).toNat)
    case atStart => exact ⟨0, 0, by omega, by omega, rfl, rfl, rfl, Below.refl _ _⟩
    case round =>
      obtain ⟨k, d, hk, hdk, rfl, rfl, HS, hb⟩ := hrel
      have hz := hb.size
      by_cases hlt : k < f.length
      · obtain ⟨b, o, rfl, _, hc0, hc1⟩ := rd_nd (hf.rd.below hb hB) hlt
        have hmore := scan_more hlt HS.out
        have hstop := scan_stop hlt HS.out
        have hbx : Below wr.heap.size wr (wr.alloc (.cells #[.int .i64 f[k].op, .int .i64 f[k].n] 42)) := (Below.refl _ _).alloc (Nat.le_refl _) _
        have hpw : -1 ≤ partsW f[k] ∧ partsW f[k] ≤ 2 := by
          have := takes_bd f[k].op
          unfold partsW; split <;> omega
        have hp := parts27_any f[k].op f[k].n (wr.alloc (.cells #[.int .i64 f[k].op, .int .i64 f[k].n] 42))
        generalize hx : f[k] = x at *
        obtain ⟨op, m⟩ := x
        dsimp only at *
        generalize partsW ⟨op, m⟩ = p at *
        have HP := Lib.hid hp
        have HM := Lib.hid hmore
        have HT := Lib.hid hstop
        clear hp hmore hstop hx
        by_cases hp0 : p < 0
        · go_wp2_with fail
          refine Calls.mono HP.out ?_
          rintro e w2 ⟨rfl, hb2⟩
          go_wp2
          go_ret
          exact ⟨ret_bool (by have := HT.out (.inl hp0); symm; simpa using this), hb.trans ((hbx.trans (hb2.mono (by simp))).mono hz)⟩
        have dp0 : decide (p < 0) = false := by simpa using hp0
        by_cases hpd : (d : Int) < p
        · go_wp2_with fail
          refine Calls.mono HP.out ?_
          rintro e w2 ⟨rfl, hb2⟩
          go_wp2
          go_ret
          exact ⟨ret_bool (by have := HT.out (.inr hpd); symm; simpa using this), hb.trans ((hbx.trans (hb2.mono (by simp))).mono hz)⟩
        have dpd : decide ((d : Int) < p) = false := by simpa using hpd
        have HM2 := Lib.hid (HM.out (by omega) (by omega))
        go_wp2_with fail
        refine Calls.mono HP.out ?_
        rintro e w2 ⟨rfl, hb2⟩
        go_wp2
        go_roundw
        case rel => exact ⟨k + 1, d - p.toNat + 1, by omega, by omega, by go_num, by congr 1; omega, HM2, hb.trans ((hbx.trans (hb2.mono (by simp))).mono hz)⟩
        case measure => simp [intOf]; omega
      · have hkl : k = f.length := by omega
        subst hkl
        have hs := HS.out
        rw [List.take_of_length_le (Nat.le_refl _)] at hs
        have HL := Lib.hid (scan_last hs)
        clear hs
        go_wp2
        go_ret
        exact ⟨ret_bool HL.out.symm, hb⟩

theorem rnext_any (A1 A2 : Option Addr) (n1 c1 n2 c2 : Nat) (k : Nat) (w : World) (hl : n1 + n2 ≤ 60000) (hk : k < n1 + n2) :
    Calls Try.prog 107 #[.agg #[.slice A1 n1 c1, .slice A2 n2 c2], .int .i64 (k : Int)] w (Num w ((nx n1 (n1 + n2) k : Nat) : Int)) := by
  obtain ⟨hb, hx1, hx2⟩ := wbox w A1 A2 n1 c1 n2 c2
  have HX1 := Lib.hid hx1
  have hlt := hb.size
  clear hx1 hx2
  by_cases h : k + 1 < n1 + n2
  · have e : nx n1 (n1 + n2) k = k + 1 := by rw [nx, if_pos h]
    rw [e]
    clear e
    have d : ((k : Int) + 1) < ((n1 + n2 : Nat) : Int) := by omega
    go_enter Try.func107, Try.ntmps107
    go_wp2_with fail
    refine (rLen_any A1 A2 n1 c1 n2 c2 _ hl).mono ?_
    rintro e w1 ⟨rfl, hb1⟩
    go_wp2
    go_ret
    exact ⟨ret_int (by omega), hb.trans (hb1.mono (by simp))⟩
  · have e : nx n1 (n1 + n2) k = n1 := by rw [nx, if_neg h]
    rw [e]
    clear e
    have d : ¬ ((k : Int) + 1) < ((n1 + n2 : Nat) : Int) := by omega
    go_enter Try.func107, Try.ntmps107
    go_wp2_with fail
    refine (rLen_any A1 A2 n1 c1 n2 c2 _ hl).mono ?_
    rintro e w1 ⟨rfl, hb1⟩
    have hc := (hb1.cell (p := ⟨w.heap.size, 0, none⟩) (by simp)).trans HX1.out
    go_wp2
    go_ret
    exact ⟨rfl, hb.trans (hb1.mono (by simp))⟩
/-- A lasso as a value. -/
def lassoV (A1 A2 : Option Addr) (n1 c1 n2 c2 : Nat) : Value := .agg #[.slice A1 n1 c1, .slice A2 n2 c2, .int .i64 ((n1 + n2 : Nat) : Int), .int .i64 (n1 : Int)]
end Go.Proofs.Ytkikkplpalabhaa
