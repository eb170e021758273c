/- The law's functions of layer 28: far, asked, the example. -/
import Derived.Test.YtedohmcnjlhdnaaCr5
import Derived.Test.YtedohmcnjlhdnaaCr6
namespace Go.Proofs.Ytedohmcnjlhdnaa
open Go.RowKit

def brN (x : Nd) : Bool := x.op == 6 || x.op == 9 || x.op == 10
def farB (f : List Nd) (np : Nat) : Bool := decide (9 < f.countP brN) || decide (200 < f.length) || decide (60 < np)
theorem cnt_snoc (l : List Nd) (k : Nat) (hk : k < l.length) : (l.take (k + 1)).countP brN = (l.take k).countP brN + if brN l[k] = true then 1 else 0 := by
  rw [take_snoc l k hk, List.countP_append, List.countP_singleton]
set_option maxHeartbeats 4000000 in
set_option maxRecDepth 100000 in
theorem far28_any (A : Option Addr) (c : Nat) (f : List Nd) (Ap : Option Addr) (np cp : Nat) (w : World) (B : Nat) (hf : Sl w B 2 A f.length c (ncells f)) (hB : B ≤ w.heap.size) (hl : f.length ≤ 8796093022208) (hpl : np ≤ 17592186044416) :
    Calls Try.prog 26 #[.slice A f.length c, .slice Ap np cp] w (Tru w (farB f np)) := by
  have HFB : Hid (farB f np = (decide (9 < f.countP brN) || decide (200 < f.length) || decide (60 < np))) := Lib.hid rfl
  generalize farB f np = q at *
  have HF := Lib.hid hf
  have hcf := hf.cap
  clear hf
  go_enter Try.func26, Try.ntmps26
  go_wp2_with fail
  go_loopw [5, 10] (fun u i wr => ∃ k n : Nat, k ≤ f.length ∧ i = .int .i64 k ∧ u = .int .i64 n ∧ n ≤ k ∧ Hid (n = (f.take k).countP brN) ∧ Below w.heap.size w wr) (fun _ i _ => f.length - (intOf i).toNat)
  case atStart => exact ⟨0, 0, by omega, rfl, rfl, by omega, rfl, Below.refl _ _⟩
  case round =>
    obtain ⟨k, n, hk, rfl, rfl, hnk, HN, hbr⟩ := hrel
    have hsw := hbr.size
    by_cases hlt : k < f.length
    · obtain ⟨bb, o, rfl, hbb, hc0, hc1⟩ := rd_nd HF.out.rd hlt
      have h0 := (hbr.cell (p := ⟨bb, o + k * 2, none⟩) (show bb < w.heap.size by omega)).trans hc0
      have h1 := (hbr.cell (p := ⟨bb, o + k * 2 + 1, none⟩) (show bb < w.heap.size by omega)).trans hc1
      have hsn := cnt_snoc f k hlt
      rw [← HN.out] at hsn
      have wk : IntKind.i64.wrap ((k : Int) + 1) = k + 1 := by rw [IntKind.wrap_i64]; omega
      have wn : IntKind.i64.wrap ((n : Int) + 1) = n + 1 := by rw [IntKind.wrap_i64]; omega
      generalize f[k] = x at *
      obtain ⟨op, a⟩ := x
      have hbq : brN ⟨op, a⟩ = (op == 6 || op == 9 || op == 10) := rfl
      rw [hbq] at hsn
      clear hc0 hc1 hbq
      dsimp only at h0 h1
      have yes : op = 6 ∨ op = 9 ∨ op = 10 → Hid (n + 1 = (f.take (k + 1)).countP brN) := fun h => Lib.hid (by rw [hsn, if_pos (by rcases h with rfl | rfl | rfl <;> rfl)])
      have no : op ≠ 6 → op ≠ 9 → op ≠ 10 → Hid (n = (f.take (k + 1)).countP brN) := fun h6 h9 h10 => Lib.hid (by rw [hsn, if_neg (by simp [h6, h9, h10])]; rfl)
      by_cases h6 : op = 6
      · subst h6
        have HY := yes (.inl rfl)
        clear yes no hsn
        go_wp2_with fail
        go_roundw
        case rel => exact ⟨k + 1, n + 1, by omega, by go_num, by go_num, by omega, HY, hbr.alloc hsw _⟩
        case measure => simp [intOf]; omega
      · have d6 : (op == 6) = false := by simpa using h6
        by_cases h9 : op = 9
        · subst h9
          have HY := yes (.inr (.inl rfl))
          clear yes no hsn
          go_wp2_with fail
          go_roundw
          case rel => exact ⟨k + 1, n + 1, by omega, by go_num, by go_num, by omega, HY, hbr.alloc hsw _⟩
          case measure => simp [intOf]; omega
        · have d9 : (op == 9) = false := by simpa using h9
          by_cases h10 : op = 10
          · subst h10
            have HY := yes (.inr (.inr rfl))
            clear yes no hsn
            go_wp2_with fail
            go_roundw
            case rel => exact ⟨k + 1, n + 1, by omega, by go_num, by go_num, by omega, HY, hbr.alloc hsw _⟩
            case measure => simp [intOf]; omega
          · have d10 : (op == 10) = false := by simpa using h10
            have HY := no h6 h9 h10
            clear yes no hsn h6 h9 h10
            go_wp2_with fail
            go_roundw
            case rel => exact ⟨k + 1, n, by omega, by go_num, rfl, by omega, HY, hbr.alloc hsw _⟩
            case measure => simp [intOf]; omega
    · have hkl : k = f.length := by omega
      subst hkl
      rw [List.take_of_length_le (Nat.le_refl _)] at HN
      rw [← HN.out] at HFB
      by_cases h9 : 9 < n
      · have d9 : decide ((9 : Int) < (n : Int)) = true := by simp; omega
        have HQ : Hid (q = true) := Lib.hid (by rw [HFB.out, decide_eq_true h9]; rfl)
        clear h9
        go_wp2_with fail
        go_ret
        exact ⟨by rw [HQ.out]; rfl, hbr⟩
      · have d9 : decide ((9 : Int) < (n : Int)) = false := by simp; omega
        by_cases h2 : 200 < f.length
        · have d2 : decide ((200 : Int) < (f.length : Int)) = true := by simp; omega
          have HQ : Hid (q = true) := Lib.hid (by rw [HFB.out, decide_eq_true h2]; simp)
          clear h9 h2
          go_wp2_with fail
          go_ret
          exact ⟨by rw [HQ.out]; rfl, hbr⟩
        · have d2 : decide ((200 : Int) < (f.length : Int)) = false := by simp; omega
          by_cases h6 : 60 < np
          · have d6 : decide ((60 : Int) < (np : Int)) = true := by simp; omega
            have HQ : Hid (q = true) := Lib.hid (by rw [HFB.out, decide_eq_true h6]; simp)
            clear h9 h2 h6
            go_wp2_with fail
            go_ret
            exact ⟨by rw [HQ.out]; rfl, hbr⟩
          · have d6 : decide ((60 : Int) < (np : Int)) = false := by simp; omega
            have HQ : Hid (q = false) := Lib.hid (by rw [HFB.out, decide_eq_false h9, decide_eq_false h2, decide_eq_false h6]; rfl)
            clear h9 h2 h6
            go_wp2_with fail
            go_ret
            exact ⟨by rw [HQ.out]; rfl, hbr⟩
theorem far_no28 {f : List Nd} {np : Nat} (h : farB f np = false) : f.countP brN ≤ 9 ∧ f.length ≤ 200 ∧ np ≤ 60 := by
  unfold farB at h
  simp only [Bool.or_eq_false_iff, decide_eq_false_iff_not] at h
  omega
def askedB (f : List Nd) (ps : List Int) : Bool := !farB f ps.length && goodB f ps
set_option maxHeartbeats 4000000 in
set_option maxRecDepth 100000 in
theorem asked28_any (A : Option Addr) (c : Nat) (f : List Nd) (Ap : Option Addr) (np cp : Nat) (ps : List Int) (w : World) (B : Nat) (hf : Sl w B 2 A f.length c (ncells f)) (hp : Sl w B 1 Ap np cp (icells ps)) (hnp : np = ps.length) (hB : B ≤ w.heap.size) (hl : f.length ≤ 8796093022208) (hpl : np ≤ 17592186044416) :
    Calls Try.prog 33 #[.slice A f.length c, .slice Ap np cp] w (Tru w (askedB f ps)) := by
  subst hnp
  have HFB : Hid (askedB f ps = (!farB f ps.length && goodB f ps)) := Lib.hid rfl
  have HGB : Hid (goodB f ps = (isN f && decide (f.length ≤ 50) && ps.all (partB f.length))) := Lib.hid rfl
  generalize askedB f ps = q at *
  have HF := Lib.hid hf
  have HP := Lib.hid hp
  have hcf := hf.cap
  have hcp := hp.cap
  have HFAR := Lib.hid (far28_any A c f Ap ps.length cp w B hf hB hl hpl)
  cases hfar : farB f ps.length
  · rw [hfar] at HFAR HFB
    obtain ⟨-, hf2, hp6⟩ := far_no28 hfar
    have HI := Lib.hid (fun (w' : World) (hb : Below w.heap.size w w') => IsR_any A c f w' B (hf.below hb hB) (Nat.le_trans hB hb.size) (by omega))
    clear hf hp hfar
    go_enter Try.func33, Try.ntmps33
    go_wp2_with fail
    refine Calls.mono HFAR.out ?_
    rintro e w1 ⟨rfl, hb1⟩
    have HI1 := Lib.hid (HI.out w1 hb1)
    have hz1 := hb1.size
    clear HI HFAR
    cases hN : isN f
    · rw [hN] at HI1 HGB
      have HQ : Hid (q = false) := Lib.hid (by rw [HFB.out, HGB.out]; rfl)
      clear hN
      go_wp2_with fail
      refine Calls.mono HI1.out ?_
      rintro e w2 ⟨rfl, hb2⟩
      go_wp2_with fail
      go_ret
      exact ⟨by rw [HQ.out]; rfl, hb1.trans (hb2.mono hz1)⟩
    · rw [hN] at HI1 HGB
      clear hN
      by_cases h50 : 50 < f.length
      · have HQ : Hid (q = false) := Lib.hid (by rw [HFB.out, HGB.out, show decide (f.length ≤ 50) = false by simpa using h50]; rfl)
        have d50 : decide ((50 : Int) < (f.length : Int)) = true := by simp; omega
        clear h50
        go_wp2_with fail
        refine Calls.mono HI1.out ?_
        rintro e w2 ⟨rfl, hb2⟩
        go_wp2_with fail
        go_ret
        exact ⟨by rw [HQ.out]; rfl, hb1.trans (hb2.mono hz1)⟩
      · have HQ : Hid (q = ps.all (partB f.length)) := Lib.hid (by rw [HFB.out, HGB.out, show decide (f.length ≤ 50) = true by simp; omega]; rfl)
        have d50 : decide ((50 : Int) < (f.length : Int)) = false := by simp; omega
        clear HFB HGB
        go_wp2_with fail
        refine Calls.mono HI1.out ?_
        rintro e w2 ⟨rfl, hb2⟩
        have hb02 := hb1.trans (hb2.mono hz1)
        have hz2 := hb02.size
        clear HI1 hb1 hb2
        go_wp2_with fail
        go_loopw [22] (fun i wr => ∃ k : Nat, k ≤ ps.length ∧ i = .int .i64 k ∧ Below w2.heap.size w2 wr ∧ Hid ((ps.take k).all (partB f.length) = true)) (fun i _ => ps.length - (intOf i).toNat)
        case atStart => exact ⟨0, by omega, rfl, Below.refl _ _, rfl⟩
        case round =>
          obtain ⟨k, hk, rfl, hbr, HALL⟩ := hrel
          have hsw := hbr.size
          have hb0r := hb02.trans (hbr.mono hz2)
          by_cases hlt : k < ps.length
          · obtain ⟨bb, o, rfl, hbb, hc0⟩ := HP.out.rd.at_ (icells_at' hlt)
            have hc1 := (hb0r.cell (p := ⟨bb, o + k, none⟩) (show bb < w.heap.size by omega)).trans hc0
            have hsn := all_take' hlt HALL.out
            have hno : partB f.length ps[k] = false → ps.all (partB f.length) = false := fun h => by
              rw [Bool.eq_false_iff]
              intro ha
              have := List.all_eq_true.1 ha ps[k] (List.getElem_mem hlt)
              rw [h] at this; cases this
            generalize ps[k] = z at *
            have HSN := Lib.hid hsn
            have HNO := Lib.hid hno
            have wk : IntKind.i64.wrap ((k : Int) + 1) = k + 1 := by rw [IntKind.wrap_i64]; omega
            clear hsn hno hc0
            by_cases hz0 : z < 0
            · have dz : decide (z < 0) = true := by simpa using hz0
              have HPB : Hid (partB f.length z = false) := Lib.hid (by unfold partB; simp; omega)
              clear hz0
              go_wp2_with fail
              go_ret
              exact ⟨by rw [HQ.out, HNO.out HPB.out]; rfl, hb0r⟩
            · have dz : decide (z < 0) = false := by simpa using hz0
              by_cases hz9 : z < (f.length : Int)
              · have d9 : decide ((f.length : Int) ≤ z) = false := by simpa using hz9
                have HPB : Hid (partB f.length z = true) := Lib.hid (by unfold partB; simp; omega)
                clear hz0 hz9
                go_wp2_with fail
                go_roundw
                case rel => exact ⟨k + 1, by omega, by go_num, hbr, by show _ = _; rw [HSN.out]; exact HPB.out⟩
                case measure => simp [intOf]; omega
              · have d9 : decide ((f.length : Int) ≤ z) = true := by simp; omega
                have HPB : Hid (partB f.length z = false) := Lib.hid (by unfold partB; simp; omega)
                clear hz0 hz9
                go_wp2_with fail
                go_ret
                exact ⟨by rw [HQ.out, HNO.out HPB.out]; rfl, hb0r⟩
          · have hkl : k = ps.length := by omega
            subst hkl
            rw [List.take_of_length_le (Nat.le_refl _)] at HALL
            go_wp2_with fail
            go_ret
            exact ⟨by rw [HQ.out, HALL.out]; rfl, hb0r⟩
  · rw [hfar] at HFAR HFB
    have HQ : Hid (q = false) := Lib.hid (by rw [HFB.out]; rfl)
    clear hf hp hfar
    go_enter Try.func33, Try.ntmps33
    go_wp2_with fail
    refine Calls.mono HFAR.out ?_
    rintro e w1 ⟨rfl, hb1⟩
    go_wp2_with fail
    go_ret
    exact ⟨by rw [HQ.out]; rfl, hb1⟩
/-- Where no more than nine nodes part ways, there are few ways. -/
theorem brF_cnt (f : List Nd) (now : List Bool) : brF f now ≤ f.countP brN := by
  have h1 : brF f now ≤ (List.range f.length).countP (fun j => branches f j) := countP_le_of (fun x _ h => by simp only [Bool.and_eq_true] at h; exact h.1)
  refine Nat.le_trans h1 (Nat.le_of_eq ?_)
  have h2 : ∀ l : List Nd, (List.range l.length).countP (fun j => branches l j) = l.countP brN := by
    intro l
    have e : l = (List.range l.length).map (fun j => l.getD j ⟨0, 0⟩) := by
      refine List.ext_getElem (by simp) (fun i h1 h2 => ?_)
      simp [List.getD, h1]
    conv => rhs; rw [e]
    rw [List.countP_map]
    refine List.countP_congr (fun j _ => ?_)
    exact Iff.rfl
  exact h2 f
theorem leaves_few {f : List Nd} (hN : isN f = true) {n : Nat} {w : Way} (hw : WOk f w) (h : f.countP brN ≤ 9) : (leaves f n w).length ≤ 1000000 := by
  have h1 := leaves_len (kidsOk_of hN) n w hw
  have h2 : 2 ^ brF f w.now ≤ 2 ^ 9 := Nat.pow_le_pow_right (by omega) (Nat.le_trans (brF_cnt f _) h)
  omega
end Go.Proofs.Ytedohmcnjlhdnaa
