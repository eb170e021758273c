/- The walks of layer 23: spans, Spans, Kids. -/
import Derived.Test.YtamhjgkigjpbhaaDoorLtl3
namespace Go.Proofs.YtamhjgkigjpbhaaDoor
open Go.RowKit

def SpansPost (f : List Nd) (w : World) (en : Ending) (w' : World) : Prop :=
  ∃ v, en = .returned (.tuple #[v, .int .i64 (wrong f)]) ∧ w'.ownsRow w.heap.size 3 1 v (spans f).length (icells (spans f)) ∧ Below w.heap.size w w' ∧ (v = .slice none 0 0 ↔ spans f = [])

theorem spans_err {f : List Nd} {w w' : World} (hb : Below w.heap.size w w') {e : Int} (he : wrong f = e) (h0 : e ≠ 0) : SpansPost f w (.returned (.tuple #[.slice none 0 0, .int .i64 e])) w' := by
  have hs : spans f = [] := (spans_nil_iff f).2 (by rw [he]; exact h0)
  exact ⟨_, by rw [he], by rw [hs]; exact World.ownsRow_nil _ _ _ _, hb, by simp [hs]⟩

set_option maxHeartbeats 1000000 in
theorem spans_any (A : Option Addr) (c : Nat) (f : List Nd) (w : World) (B : Nat) (hf : Sl w B 2 A f.length c (ncells f)) (hB : B ≤ w.heap.size) (hl : f.length ≤ 1000000000) :
    Calls Tryd.prog 50 #[.slice A f.length c] w (SpansPost f w) := by
  by_cases h0 : f.length = 0
  · have h0' : ((f.length : Int) == 0) = true := by simp [h0]
    have hnil : f = [] := List.eq_nil_of_length_eq_zero h0
    have HN := Lib.hid hnil
    clear hnil h0
    go_enter Tryd.func50, Tryd.ntmps50
    go_wp2
    go_ret2
    exact spans_err (Below.refl _ _) (by rw [HN.out]; rfl) (by omega)
  · have h0' : ((f.length : Int) == 0) = false := by simp; rintro rfl; simp at h0
    have hne : f ≠ [] := by rintro rfl; simp at h0
    have hW := wrong_run hne
    have HW := Lib.hid hW
    clear hW
    have hf1 := (hf.up hB).below ((Below.refl w.heap.size w).alloc (Nat.le_refl _) (.cells #[.slice none 0 0] 25)) (Nat.le_refl _)
    have hb0 : Below w.heap.size w (w.alloc (.cells #[.slice none 0 0] 25)) := (Below.refl w.heap.size w).alloc (Nat.le_refl _) _
    go_enter Tryd.func50, Tryd.ntmps50
    go_wp2_with fail
    refine (work_any A c f _ w.heap.size hf1 (heap_alloc_new w _) hl).mono ?_
    rintro e w1 ⟨vs, vo, rfl, hb1, hbx, hok⟩
    have hbel : Below w.heap.size w w1 := hb0.trans hb1
    have hcx := cell_of_one hbx
    by_cases hs : (scan f 0).1 = 0
    · obtain ⟨hvs, hvo⟩ := hok hs
      have HS := Lib.hid hs
      rw [HS.out]
      clear hs hok
      obtain ⟨A1, c1, rfl, _⟩ := own_sl hvs
      by_cases h1 : 1 < (runs f).1.length
      · go_wp2
        go_ret2
        exact spans_err hbel (by rw [HW.out, if_pos HS.out, if_pos h1]) (by omega)
      · go_wp2
        go_ret2
        have hw0 : wrong f = 0 := by rw [HW.out, if_pos HS.out, if_neg h1]
        have hsp : spans f = (runs f).2 := by simp [spans, hw0]
        refine ⟨vo, ret_two hw0.symm, ?_, hbel, ?_⟩
        · rw [hsp, runs_len]
          exact own_base hvo (by simp)
        · have hne2 : ¬ spans f = [] := by rw [spans_nil_iff]; simp [hw0]
          have : vo ≠ .slice none 0 0 := by
            obtain ⟨g, cap, h, _⟩ := own_form hvo (by omega)
            rw [h]; simp
          simp [hne2, this]
    · clear hok
      have hs' : ((scan f 0).1 != 0) = true := by simpa using hs
      have Hs := Lib.hid hs
      clear hs
      generalize hE : (scan f 0).1 = E at *
      have HE := Lib.hid hE
      clear hE
      go_wp2
      go_ret2
      exact spans_err hbel (by rw [HW.out, if_neg Hs.out]) Hs.out

set_option maxHeartbeats 400000 in
theorem Spans_any (A : Option Addr) (c : Nat) (f : List Nd) (w : World) (B : Nat) (hf : Sl w B 2 A f.length c (ncells f)) (hB : B ≤ w.heap.size) (hl : f.length ≤ 1000000000) :
    Calls Tryd.prog 34 #[.slice A f.length c] w (NewRow w 3 1 (spans f).length (icells (spans f)) (spans f = [])) := by
  go_enter Tryd.func34, Tryd.ntmps34
  go_wp2_with fail
  refine (spans_any A c f w B hf hB hl).mono ?_
  rintro e w1 ⟨v, rfl, hown, hb, hnil⟩
  go_wp2
  go_ret
  exact ⟨v, rfl, hown, hb, hnil⟩

set_option maxHeartbeats 1000000 in
theorem Kids_any (A : Option Addr) (c : Nat) (f : List Nd) (at_ : Int) (w : World) (B : Nat) (hf : Sl w B 2 A f.length c (ncells f)) (hB : B ≤ w.heap.size) (hl : f.length ≤ 1000000000) (hat : -9223372036854775808 ≤ at_ ∧ at_ ≤ 9223372036854775807) :
    Calls Tryd.prog 77 #[.slice A f.length c, .int .i64 at_] w (Num2 w (kids f at_)) := by
  obtain ⟨hat1, hat2⟩ := hat
  by_cases hin : wrong f = 0 ∧ 0 ≤ at_ ∧ at_ < f.length
  · obtain ⟨hw, h0, h1⟩ := hin
    obtain ⟨k, rfl⟩ := Int.eq_ofNat_of_zero_le h0
    have hk : k < f.length := by omega
    have hsl := spans_len hw
    have hg := good_takes (good_at hw hk).2
    have hd := runs1_le (f.take k)
    rw [List.length_take, Nat.min_eq_left (by omega)] at hd
    have hkids := kids_at hw hk
    have hf' := fun (w1 : World) (hb : Below w.heap.size w w1) => rd_nd (hf.rd.below hb hB) hk
    have hT := takes_012 hg.1
    have hT2 := hg.2.1
    generalize hx : f[k] = x at *
    obtain ⟨op, n⟩ := x
    dsimp only at *
    have hpos := runs_pos f
    have hsr : spans f = (runs f).2 := by simp [spans, hw]
    rw [← hsr] at hpos
    have HX := Lib.hid hx
    have HK := Lib.hid hkids
    have HP := Lib.hid hpos
    have HL := Lib.hid hsl
    have HF := Lib.hid hf'
    clear hx hkids hpos hsl hg hf' hsr
    go_enter Tryd.func77, Tryd.ntmps77
    go_wp2_with fail
    refine (Spans_any A c f w B hf hB hl).mono ?_
    rintro e w1 ⟨v, rfl, hown, hb, _⟩
    obtain ⟨b, o, rfl, _, hc0, hc1⟩ := HF.out w1 hb
    rw [HL.out] at hown
    obtain ⟨A1, c1, rfl, hsl1⟩ := own_sl hown
    rcases hT with hT | hT | hT
    · have HT := Lib.hid hT
      clear hT
      go_wp2_with (go_at_call 89; refine (takes_any _ _).mono ?_; rw [HT.out]; rintro e w' ⟨rfl, rfl⟩)
      go_ret2
      exact num2_of (by rw [HK.out, HT.out]; rfl) hb
    · have HT := Lib.hid hT
      clear hT
      go_wp2_with (go_at_call 89; refine (takes_any _ _).mono ?_; rw [HT.out]; rintro e w' ⟨rfl, rfl⟩)
      go_ret2
      exact num2_of (by rw [HK.out, HT.out]; rfl) hb
    · have hk2 : 2 ≤ k := by omega
      have hk1 : k - 1 < (spans f).length := by rw [HL.out]; omega
      obtain ⟨b1, o1, rfl, _, hcs⟩ := rd_int (k := k - 1) hsl1.rd hk1
      have hbd := HP.out _ (List.getElem_mem hk1)
      have he : (spans f)[k - 1]?.getD 0 = (spans f)[k - 1] := by simp [hk1]
      have HT := Lib.hid hT
      have HE := Lib.hid he
      clear hT he
      generalize hs : (spans f)[k - 1] = s at *
      have HS := Lib.hid hs
      clear hs
      go_wp2_with (go_at_call 89; refine (takes_any _ _).mono ?_; rw [HT.out]; rintro e w' ⟨rfl, rfl⟩)
      go_ret2
      exact num2_of (by rw [HK.out, HT.out, HE.out]; rfl) hb
  · have hko := kids_out hin
    have HK := Lib.hid hko
    clear hko
    have hcase : at_ < 0 ∨ 0 ≤ at_ ∧ ((spans f).length : Int) ≤ at_ := by
      by_cases h : at_ < 0
      · exact .inl h
      · right
        refine ⟨by omega, ?_⟩
        by_cases hw : wrong f = 0
        · rw [spans_len hw]; omega
        · rw [(spans_nil_iff f).2 hw]; simp; omega
    have Hin := Lib.hid hin
    clear hin
    go_enter Tryd.func77, Tryd.ntmps77
    go_wp2_with fail
    refine (Spans_any A c f w B hf hB hl).mono ?_
    rintro e w1 ⟨v, rfl, hown, hb, _⟩
    obtain ⟨A1, c1, rfl, hsl1⟩ := own_sl hown
    rcases hcase with h | ⟨h, h'⟩
    · go_wp2
      go_ret2
      exact num2_of HK.out hb
    · go_wp2
      go_ret2
      exact num2_of HK.out hb
end Go.Proofs.YtamhjgkigjpbhaaDoor
