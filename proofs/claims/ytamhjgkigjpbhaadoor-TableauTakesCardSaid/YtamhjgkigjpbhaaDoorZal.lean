/- Texts that stand one behind the other, in one file. -/
import Derived.Test.YtamhjgkigjpbhaaDoorLtl3
import Derived.Test.YtamhjgkigjpbhaaDoorProg
import Derived.Test.YtamhjgkigjpbhaaDoorMa
import Derived.Outline
import Derived.Deep.RegionLaw
import Derived.Test.YtamhjgkigjpbhaaDoorZag
import Derived.Test.YtamhjgkigjpbhaaDoorZaj

/- The walks of layer 23: spans, Spans, Kids. -/
namespace Go.Proofs.YtamhjgkigjpbhaaDoor
open Go.RowKit

def SpansPost (f : List Nd) (w : World) (en : Ending) (w' : World) : Prop :=
  ∃ v, en = .returned (.tuple #[v, .int .i64 (wrong f)]) ∧ w'.ownsRow w.heap.size 3 1 v (spans f).length (icells (spans f)) ∧ Below w.heap.size w w' ∧ (v = .slice none 0 0 ↔ spans f = [])

theorem spans_err {f : List Nd} {w w' : World} (hb : Below w.heap.size w w') {e : Int} (he : wrong f = e) (h0 : e ≠ 0) : SpansPost f w (.returned (.tuple #[.slice none 0 0, .int .i64 e])) w' := by
  have hs : spans f = [] := (spans_nil_iff f).2 (by rw [he]; exact h0)
  exact ⟨_, by rw [he], by rw [hs]; exact World.ownsRow_nil _ _ _ _, hb, by simp [hs]⟩

set_option maxHeartbeats 1000000 in
theorem spans_any (A : Option Addr) (c : Nat) (f : List Nd) (w : World) (B : Nat) (hf : Sl w B 2 A f.length c (ncells f)) (hB : B ≤ w.heap.size) (hl : f.length ≤ 1000000000) :
    Calls Tryd.prog 50 #[.slice A f.length c] w (SpansPost f w) := by
  by_cases h0 : f.length = 0
  · have h0' : ((f.length : Int) == 0) = true := by simp [h0]
    have hnil : f = [] := List.eq_nil_of_length_eq_zero h0
    have HN := Lib.hid hnil
    clear hnil h0
    go_enter Tryd.func50, Tryd.ntmps50
    go_wp2
    go_ret2
    exact spans_err (Below.refl _ _) (by rw [HN.out]; rfl) (by omega)
  · have h0' : ((f.length : Int) == 0) = false := by simp; rintro rfl; simp at h0
    have hne : f ≠ [] := by rintro rfl; simp at h0
    have hW := wrong_run hne
    have HW := Lib.hid hW
    clear hW
    have hf1 := (hf.up hB).below ((Below.refl w.heap.size w).alloc (Nat.le_refl _) (.cells #[.slice none 0 0] 25)) (Nat.le_refl _)
    have hb0 : Below w.heap.size w (w.alloc (.cells #[.slice none 0 0] 25)) := (Below.refl w.heap.size w).alloc (Nat.le_refl _) _
    go_enter Tryd.func50, Tryd.ntmps50
    go_wp2_with fail
    refine (work_any A c f _ w.heap.size hf1 (heap_alloc_new w _) hl).mono ?_
    rintro e w1 ⟨vs, vo, rfl, hb1, hbx, hok⟩
    have hbel : Below w.heap.size w w1 := hb0.trans hb1
    have hcx := cell_of_one hbx
    by_cases hs : (scan f 0).1 = 0
    · obtain ⟨hvs, hvo⟩ := hok hs
      have HS := Lib.hid hs
      rw [HS.out]
      clear hs hok
      obtain ⟨A1, c1, rfl, _⟩ := own_sl hvs
      by_cases h1 : 1 < (runs f).1.length
      · go_wp2
        go_ret2
        exact spans_err hbel (by rw [HW.out, if_pos HS.out, if_pos h1]) (by omega)
      · go_wp2
        go_ret2
        have hw0 : wrong f = 0 := by rw [HW.out, if_pos HS.out, if_neg h1]
        have hsp : spans f = (runs f).2 := by simp [spans, hw0]
        refine ⟨vo, ret_two hw0.symm, ?_, hbel, ?_⟩
        · rw [hsp, runs_len]
          exact own_base hvo (by simp)
        · have hne2 : ¬ spans f = [] := by rw [spans_nil_iff]; simp [hw0]
          have : vo ≠ .slice none 0 0 := by
            obtain ⟨g, cap, h, _⟩ := own_form hvo (by omega)
            rw [h]; simp
          simp [hne2, this]
    · clear hok
      have hs' : ((scan f 0).1 != 0) = true := by simpa using hs
      have Hs := Lib.hid hs
      clear hs
      generalize hE : (scan f 0).1 = E at *
      have HE := Lib.hid hE
      clear hE
      go_wp2
      go_ret2
      exact spans_err hbel (by rw [HW.out, if_neg Hs.out]) Hs.out

set_option maxHeartbeats 400000 in
theorem Spans_any (A : Option Addr) (c : Nat) (f : List Nd) (w : World) (B : Nat) (hf : Sl w B 2 A f.length c (ncells f)) (hB : B ≤ w.heap.size) (hl : f.length ≤ 1000000000) :
    Calls Tryd.prog 34 #[.slice A f.length c] w (NewRow w 3 1 (spans f).length (icells (spans f)) (spans f = [])) := by
  go_enter Tryd.func34, Tryd.ntmps34
  go_wp2_with fail
  refine (spans_any A c f w B hf hB hl).mono ?_
  rintro e w1 ⟨v, rfl, hown, hb, hnil⟩
  go_wp2
  go_ret
  exact ⟨v, rfl, hown, hb, hnil⟩

set_option maxHeartbeats 1000000 in
theorem Kids_any (A : Option Addr) (c : Nat) (f : List Nd) (at_ : Int) (w : World) (B : Nat) (hf : Sl w B 2 A f.length c (ncells f)) (hB : B ≤ w.heap.size) (hl : f.length ≤ 1000000000) (hat : -9223372036854775808 ≤ at_ ∧ at_ ≤ 9223372036854775807) :
    Calls Tryd.prog 77 #[.slice A f.length c, .int .i64 at_] w (Num2 w (kids f at_)) := by
  obtain ⟨hat1, hat2⟩ := hat
  by_cases hin : wrong f = 0 ∧ 0 ≤ at_ ∧ at_ < f.length
  · obtain ⟨hw, h0, h1⟩ := hin
    obtain ⟨k, rfl⟩ := Int.eq_ofNat_of_zero_le h0
    have hk : k < f.length := by omega
    have hsl := spans_len hw
    have hg := good_takes (good_at hw hk).2
    have hd := runs1_le (f.take k)
    rw [List.length_take, Nat.min_eq_left (by omega)] at hd
    have hkids := kids_at hw hk
    have hf' := fun (w1 : World) (hb : Below w.heap.size w w1) => rd_nd (hf.rd.below hb hB) hk
    have hT := takes_012 hg.1
    have hT2 := hg.2.1
    generalize hx : f[k] = x at *
    obtain ⟨op, n⟩ := x
    dsimp only at *
    have hpos := runs_pos f
    have hsr : spans f = (runs f).2 := by simp [spans, hw]
    rw [← hsr] at hpos
    have HX := Lib.hid hx
    have HK := Lib.hid hkids
    have HP := Lib.hid hpos
    have HL := Lib.hid hsl
    have HF := Lib.hid hf'
    clear hx hkids hpos hsl hg hf' hsr
    go_enter Tryd.func77, Tryd.ntmps77
    go_wp2_with fail
    refine (Spans_any A c f w B hf hB hl).mono ?_
    rintro e w1 ⟨v, rfl, hown, hb, _⟩
    obtain ⟨b, o, rfl, _, hc0, hc1⟩ := HF.out w1 hb
    rw [HL.out] at hown
    obtain ⟨A1, c1, rfl, hsl1⟩ := own_sl hown
    rcases hT with hT | hT | hT
    · have HT := Lib.hid hT
      clear hT
      go_wp2_with (go_at_call 89; refine (takes_any _ _).mono ?_; rw [HT.out]; rintro e w' ⟨rfl, rfl⟩)
      go_ret2
      exact num2_of (by rw [HK.out, HT.out]; rfl) hb
    · have HT := Lib.hid hT
      clear hT
      go_wp2_with (go_at_call 89; refine (takes_any _ _).mono ?_; rw [HT.out]; rintro e w' ⟨rfl, rfl⟩)
      go_ret2
      exact num2_of (by rw [HK.out, HT.out]; rfl) hb
    · have hk2 : 2 ≤ k := by omega
      have hk1 : k - 1 < (spans f).length := by rw [HL.out]; omega
      obtain ⟨b1, o1, rfl, _, hcs⟩ := rd_int (k := k - 1) hsl1.rd hk1
      have hbd := HP.out _ (List.getElem_mem hk1)
      have he : (spans f)[k - 1]?.getD 0 = (spans f)[k - 1] := by simp [hk1]
      have HT := Lib.hid hT
      have HE := Lib.hid he
      clear hT he
      generalize hs : (spans f)[k - 1] = s at *
      have HS := Lib.hid hs
      clear hs
      go_wp2_with (go_at_call 89; refine (takes_any _ _).mono ?_; rw [HT.out]; rintro e w' ⟨rfl, rfl⟩)
      go_ret2
      exact num2_of (by rw [HK.out, HT.out, HE.out]; rfl) hb
  · have hko := kids_out hin
    have HK := Lib.hid hko
    clear hko
    have hcase : at_ < 0 ∨ 0 ≤ at_ ∧ ((spans f).length : Int) ≤ at_ := by
      by_cases h : at_ < 0
      · exact .inl h
      · right
        refine ⟨by omega, ?_⟩
        by_cases hw : wrong f = 0
        · rw [spans_len hw]; omega
        · rw [(spans_nil_iff f).2 hw]; simp; omega
    have Hin := Lib.hid hin
    clear hin
    go_enter Tryd.func77, Tryd.ntmps77
    go_wp2_with fail
    refine (Spans_any A c f w B hf hB hl).mono ?_
    rintro e w1 ⟨v, rfl, hown, hb, _⟩
    obtain ⟨A1, c1, rfl, hsl1⟩ := own_sl hown
    rcases hcase with h | ⟨h, h'⟩
    · go_wp2
      go_ret2
      exact num2_of HK.out hb
    · go_wp2
      go_ret2
      exact num2_of HK.out hb
end Go.Proofs.YtamhjgkigjpbhaaDoor

/- The walks of layer 25: form, Of, Dual, Is. -/
namespace Go.Proofs.YtamhjgkigjpbhaaDoor
open Go.RowKit

set_option maxHeartbeats 2000000 in
theorem Is_any (A : Option Addr) (c : Nat) (f : List Nd) (w : World) (B : Nat) (hf : Sl w B 2 A f.length c (ncells f)) (hB : B ≤ w.heap.size) (hl : f.length ≤ 1000000) :
    Calls Tryd.prog 21 #[.slice A f.length c] w (Tru w (isN f)) := by
  go_enter Tryd.func21, Tryd.ntmps21
  go_wp2_with fail
  refine (Spans_any A c f _ B hf hB (by omega)).mono ?_
  rintro e w1 ⟨v1, rfl, hown1, hb1, _⟩
  have hz1 := hb1.size
  obtain ⟨A1, c1, rfl, hs1⟩ := own_sl hown1
  clear hown1 hs1
  by_cases hw : wrong f = 0
  · have hne : f ≠ [] := by rintro rfl; simp [wrong_nil] at hw
    have hpos := List.length_pos_iff.2 hne
    have hlen' : (((spans f).length : Int) == 0) = false := by rw [spans_len hw]; simp; omega
    have HW := Lib.hid hw
    clear hw hne
    go_wp2
    go_loopw [11] (fun i wr => ∃ k : Nat, k ≤ f.length ∧ i = .int .i64 k ∧ Below w.heap.size w wr ∧ Hid (isNl 0 (f.take k) = true)) (fun i _ => f.length - (intOf i).toNat)
    case atStart => exact ⟨0, by omega, rfl, hb1, rfl⟩
    case round =>
      obtain ⟨k, hk, rfl, hbr, HN⟩ := hrel
      have hzr := hbr.size
      by_cases hlt : k < f.length
      · have hfr := hf.rd.below hbr hB
        obtain ⟨b, o, rfl, hbB, hc0, hc1⟩ := rd_nd hfr hlt
        have hno := fun h => isNl_no hlt h
        have hok := fun h => isNl_ok hlt HN.out h
        have hnf := fun h => not_first HW.out hlt h
        have hla := fun h1 => lastOp_take hlt h1
        have HNO := Lib.hid hno
        have HOK := Lib.hid hok
        clear hno hok
        generalize hx : f[k] = x at *
        obtain ⟨op, n⟩ := x
        dsimp only at *
        have Hx := Lib.hid hx
        clear hx
        by_cases h4 : op = 4
        · subst h4
          have hk1 : 1 ≤ k := hnf (by decide)
          have hlo := hla hk1
          obtain ⟨b', o', e', _, hd0, hd1⟩ := rd_nd hfr (k := k - 1) (by omega)
          cases e'
          clear hnf hla
          generalize hy : f[k - 1] = y at *
          obtain ⟨op', n'⟩ := y
          dsimp only at *
          have HLO := Lib.hid hlo
          have HY := Lib.hid hy
          clear hlo hy
          have hblt := World.block_lt_of_cell? _ _ hd0
          have hd0' := (((Below.refl wr.heap.size wr).alloc (Nat.le_refl _) (.cells #[.int .i64 4, .int .i64 n] 47)).cell (p := ⟨b, o + (k - 1) * 2, none⟩) hblt).trans hd0
          have hd1' := (((Below.refl wr.heap.size wr).alloc (Nat.le_refl _) (.cells #[.int .i64 4, .int .i64 n] 47)).cell (p := ⟨b, o + (k - 1) * 2 + 1, none⟩) hblt).trans hd1
          have hk01 : (0 : Int) ≤ (k : Int) - 1 := by omega
          have hk02 : (k : Int) - 1 < (f.length : Int) := by omega
          by_cases h3 : op' = 3
          · have hn3 : ∀ w, (binOp .neq 47 (.agg #[.int .i64 op', .int .i64 n']) (.agg #[.int .i64 3, .int .i64 n'])).run Tryd.prog w = .ok (.bool false) w := fun w => by
              have := neq_nd ⟨op', n'⟩ ⟨3, n'⟩ w; simpa [h3] using this
            have H3 := Lib.hid h3
            clear h3
            go_wp2
            have ew : IntKind.i64.wrap ((k : Int) - 1) = (k : Int) - 1 := IntWalk.i64_in _ (by omega)
            have et : ((k : Int) - 1).toNat = k - 1 := by omega
            go_quiet (fail)
            clear ew et
            go_wp2
            go_roundw
            case rel => exact ⟨k + 1, by omega, by go_num, below_drewN (hbr.alloc hzr _) _, HOK.out (by rw [HLO.out, H3.out]; rfl)⟩
            case measure => simp [intOf]; omega
          · have hn3 : ∀ w, (binOp .neq 47 (.agg #[.int .i64 op', .int .i64 n']) (.agg #[.int .i64 3, .int .i64 n'])).run Tryd.prog w = .ok (.bool true) w := fun w => by
              have := neq_nd ⟨op', n'⟩ ⟨3, n'⟩ w; simpa [h3] using this
            have H3 := Lib.hid h3
            clear h3
            go_wp2
            have ew : IntKind.i64.wrap ((k : Int) - 1) = (k : Int) - 1 := IntWalk.i64_in _ (by omega)
            have et : ((k : Int) - 1).toNat = k - 1 := by omega
            go_quiet (fail)
            clear ew et
            go_wp2
            go_ret
            exact ⟨ret_bool (by rw [HNO.out (by rw [HLO.out]; simp [okN, H3.out])]), below_drewN (hbr.alloc hzr _) _⟩
        · clear hnf hla
          by_cases h7 : op = 7 ∨ op = 11 ∨ op = 12
          · rcases h7 with rfl | rfl | rfl
            all_goals
              go_wp2
              go_ret
              exact ⟨ret_bool (by rw [HNO.out (by simp [okN])]), hbr.alloc hzr _⟩
          · have e7 : op ≠ 7 := fun h => h7 (.inl h)
            have e11 : op ≠ 11 := fun h => h7 (.inr (.inl h))
            have e12 : op ≠ 12 := fun h => h7 (.inr (.inr h))
            clear h7
            go_wp2
            go_roundw
            case rel => exact ⟨k + 1, by omega, by go_num, hbr.alloc hzr _, HOK.out (by simp [okN, h4, e7, e11, e12])⟩
            case measure => simp [intOf]; omega
      · have hkl : k = f.length := by omega
        subst hkl
        go_wp2
        go_ret
        exact ⟨ret_bool (by rw [isN_end HW.out HN.out]), hbr⟩
  · have hs : (spans f).length = 0 := by rw [(spans_nil_iff f).2 hw]; rfl
    have hlen' : (((spans f).length : Int) == 0) = true := by rw [hs]; rfl
    have HW := Lib.hid hw
    clear hw hs
    go_wp2
    go_ret
    exact ⟨ret_bool (by rw [isN_wrong HW.out]), hb1⟩
end Go.Proofs.YtamhjgkigjpbhaaDoor

/- The walks of layer 28 (cover): good; Contains. -/
namespace Go.Proofs.YtamhjgkigjpbhaaDoor
open Go.RowKit

def partB (m : Nat) (z : Int) : Bool := decide (0 ≤ z) && decide (z < (m : Int))
def goodB (f : List Nd) (ps : List Int) : Bool := isN f && decide (f.length ≤ 50) && ps.all (partB f.length)
theorem all_take' {α : Type} {l : List α} {p : α → Bool} {k : Nat} (hk : k < l.length) (h : (l.take k).all p = true) : (l.take (k + 1)).all p = p l[k] := by
  rw [take_snoc l k hk, List.all_append, h]; simp
theorem all_not' {α : Type} {l : List α} {p : α → Bool} {k : Nat} (hk : k < l.length) (h : p l[k] = false) : l.all p = false := by
  rw [List.all_eq_false]
  exact ⟨l[k], List.getElem_mem hk, by simp [h]⟩
theorem icells_at' {l : List Int} {k : Nat} (hk : k < l.length) : (icells l)[k]? = some (.int .i64 l[k]) := by simp [icells, hk]

set_option maxHeartbeats 400000 in
theorem good1_any (Af : Option Addr) (m cf : Nat) (z : Int) (b : Nat) (w : World) (h0 : w.cell? ⟨b, 0, none⟩ = some (.slice Af m cf)) :
    Calls Tryd.prog 74 #[.int .i64 z, .pointer (some ⟨b, 0, none⟩)] w (Tru w (!partB m z)) := by
  by_cases hz : z < 0
  · have e : partB m z = false := by simp [partB]; omega
    have d : decide (z < 0) = true := by simpa using hz
    have E := Lib.hid e
    clear e hz
    go_enter Tryd.func74, Tryd.ntmps74
    go_wp2
    go_ret
    exact ⟨by rw [E.out]; rfl, Below.refl _ _⟩
  · have e : partB m z = !decide ((m : Int) ≤ z) := by
      have : decide (0 ≤ z) = true := by simp; omega
      rw [partB, this, Bool.true_and, Bool.eq_iff_iff]; simp
    have d : decide (z < 0) = false := by simpa using hz
    have E := Lib.hid e
    clear e hz
    go_enter Tryd.func74, Tryd.ntmps74
    go_wp2
    go_ret
    exact ⟨by rw [E.out]; simp, Below.refl _ _⟩
set_option maxHeartbeats 1000000 in
theorem indexW_any (A : Option Addr) (n c : Nat) (l : List Int) (Af : Option Addr) (m cf b : Nat) (w : World) (B : Nat) (hn : n = l.length) (hs : Sl w B 1 A n c (icells l)) (hB : B ≤ w.heap.size) (hl : n ≤ 100000000000)
    (h0 : w.cell? ⟨b, 0, none⟩ = some (.slice Af m cf)) :
    Calls Tryd.prog 90 #[.slice A n c, .func (.func 74) #[] #[.pointer (some ⟨b, 0, none⟩)]] w (Fnd w (!l.all (partB m))) := by
  subst hn
  have hb0 := World.block_lt_of_cell? w _ h0
  go_enter Tryd.func90, Tryd.ntmps90
  go_wp2
  go_loopw [8] (fun i wr => ∃ k : Nat, k ≤ l.length ∧ i = .int .i64 k ∧ Below w.heap.size w wr ∧ Hid ((l.take k).all (partB m) = true)) (fun i _ => l.length - (intOf i).toNat)
  case atStart => exact ⟨0, by omega, rfl, Below.refl _ _, rfl⟩
  case round =>
    obtain ⟨k, hk, rfl, hbr, HA⟩ := hrel
    have hsw := hbr.size
    by_cases hlt : k < l.length
    · obtain ⟨bb, o, rfl, _, hc0⟩ := (hs.rd.below hbr hB).at_ (icells_at' hlt)
      have hsn := all_take' hlt HA.out
      have hno := fun h => all_not' (p := partB m) hlt h
      have g0 := (hbr.cell (p := ⟨b, 0, none⟩) hb0).trans h0
      generalize hx : l[k] = x at *
      have HC := Lib.hid (good1_any Af m cf x b wr g0)
      have HS := Lib.hid hsn
      have HN := Lib.hid hno
      have Hx := Lib.hid hx
      clear hx hsn hno g0 h0
      cases hb : partB m x
      · have HB := Lib.hid hb
        clear hb
        go_wp2_with fail
        refine Calls.mono HC.out ?_
        rw [HB.out]
        rintro e w2 ⟨rfl, hb2⟩
        go_wp2
        go_ret
        exact ⟨_, rfl, by omega, by omega, hbr.trans (hb2.mono hsw), by rw [HN.out HB.out]; simp⟩
      · have HB := Lib.hid hb
        clear hb
        go_wp2_with fail
        refine Calls.mono HC.out ?_
        rw [HB.out]
        rintro e w2 ⟨rfl, hb2⟩
        go_wp2
        go_roundw
        case rel => exact ⟨k + 1, by omega, by go_num, hbr.trans (hb2.mono hsw), by show _ = _; rw [HS.out]; exact HB.out⟩
        case measure => simp [intOf]; omega
    · have hkl : k = l.length := by omega
      subst hkl
      rw [List.take_of_length_le (Nat.le_refl _)] at HA
      go_wp2
      go_ret
      exact ⟨_, rfl, by omega, by omega, hbr, by rw [HA.out]; rfl⟩
set_option maxHeartbeats 400000 in
theorem containsW_any (A : Option Addr) (n c : Nat) (l : List Int) (Af : Option Addr) (m cf b : Nat) (w : World) (B : Nat) (hn : n = l.length) (hs : Sl w B 1 A n c (icells l)) (hB : B ≤ w.heap.size) (hl : n ≤ 100000000000)
    (h0 : w.cell? ⟨b, 0, none⟩ = some (.slice Af m cf)) :
    Calls Tryd.prog 75 #[.slice A n c, .func (.func 74) #[] #[.pointer (some ⟨b, 0, none⟩)]] w (Tru w (!l.all (partB m))) := by
  go_enter Tryd.func75, Tryd.ntmps75
  have hI := Lib.hid (indexW_any A n c l Af m cf b w B hn hs hB hl h0)
  clear hn hs hl h0
  go_wp2_with fail
  refine Calls.mono hI.out ?_
  rintro e w1 ⟨k, rfl, _, _, hb, hk⟩
  go_wp2
  go_ret
  exact ⟨rfl, hb⟩
set_option maxHeartbeats 1000000 in
theorem good_any (A : Option Addr) (c : Nat) (f : List Nd) (Ap : Option Addr) (np cp : Nat) (ps : List Int) (w : World) (B : Nat) (hf : Sl w B 2 A f.length c (ncells f)) (hp : Sl w B 1 Ap np cp (icells ps)) (hnp : np = ps.length) (hB : B ≤ w.heap.size) (hl : f.length ≤ 1000000) (hpl : np ≤ 1000000) :
    Calls Tryd.prog 51 #[.slice A f.length c, .slice Ap np cp] w (Tru w (goodB f ps)) := by
  have hb0 : Below w.heap.size w (w.alloc (.cells #[.slice A f.length c] 22)) := (Below.refl _ _).alloc (Nat.le_refl _) _
  have hc0 : (w.alloc (.cells #[.slice A f.length c] 22)).cell? ⟨w.heap.size, 0, none⟩ = some (.slice A f.length c) := by rw [cell_of_row _ _ 0 _ _ (0, 0) (heap_alloc_new _ _)]; rfl
  have HI := Lib.hid (Is_any A c f _ B (hf.below hb0 hB) (Nat.le_trans hB hb0.size) hl)
  have hz0 : (w.alloc (.cells #[.slice A f.length c] 22)).heap.size = w.heap.size + 1 := by simp
  obtain ⟨W0, hW0⟩ : ∃ W0, w.alloc (.cells #[.slice A f.length c] 22) = W0 := ⟨_, rfl⟩
  rw [hW0] at hb0 hc0 HI hz0
  have HW0 := Lib.hid hW0
  clear hW0
  have HG : Hid (goodB f ps = (isN f && decide (f.length ≤ 50) && ps.all (partB f.length))) := Lib.hid rfl
  cases hN : isN f
  · rw [hN] at HI HG
    have HNN := Lib.hid hN
    clear hN
    go_enter Tryd.func51, Tryd.ntmps51
    go_wp2_with fail
    rw [HW0.out]
    go_wp2_with fail
    refine Calls.mono HI.out ?_
    rintro e w1 ⟨rfl, hb1⟩
    go_wp2
    go_ret
    exact ⟨by rw [HG.out]; rfl, hb0.trans (hb1.mono (by omega))⟩
  · rw [hN] at HI HG
    have HNN := Lib.hid hN
    clear hN
    by_cases h50 : f.length ≤ 50
    · have d50 : decide ((f.length : Int) ≤ 50) = true := by simp; omega
      have HL : Hid (decide (f.length ≤ 50) = true) := Lib.hid (by simpa using h50)
      go_enter Tryd.func51, Tryd.ntmps51
      go_wp2_with fail
      rw [HW0.out]
      go_wp2_with fail
      refine Calls.mono HI.out ?_
      rintro e w1 ⟨rfl, hb1⟩
      have hc1 := (hb1.cell (p := ⟨w.heap.size, 0, none⟩) (by show w.heap.size < W0.heap.size; omega)).trans hc0
      have hb01 := hb0.trans (hb1.mono (by omega))
      have HC := Lib.hid (containsW_any Ap np cp ps A f.length c w.heap.size w1 B hnp (hp.below hb01 hB) (Nat.le_trans hB hb01.size) (by omega) hc1)
      clear hp hnp
      go_wp2_with fail
      refine Calls.mono HC.out ?_
      rintro e w2 ⟨rfl, hb2⟩
      go_wp2
      go_ret
      exact ⟨by rw [HG.out, HL.out]; simp, hb01.trans (hb2.mono hb01.size)⟩
    · have d50 : decide ((f.length : Int) ≤ 50) = false := by simp; omega
      have HL : Hid (decide (f.length ≤ 50) = false) := Lib.hid (by simpa using h50)
      go_enter Tryd.func51, Tryd.ntmps51
      go_wp2_with fail
      rw [HW0.out]
      go_wp2_with fail
      refine Calls.mono HI.out ?_
      rintro e w1 ⟨rfl, hb1⟩
      have hc1 := (hb1.cell (p := ⟨w.heap.size, 0, none⟩) (by show w.heap.size < W0.heap.size; omega)).trans hc0
      go_wp2
      go_ret
      exact ⟨by rw [HG.out, HL.out]; rfl, hb0.trans (hb1.mono (by omega))⟩

set_option maxHeartbeats 1000000 in
theorem index_any (A : Option Addr) (n c : Nat) (l : List Int) (z : Int) (w : World) (B : Nat) (hn : n = l.length) (hs : Sl w B 1 A n c (icells l)) (hB : B ≤ w.heap.size) (hl : n ≤ 100000000000) :
    Calls Tryd.prog 94 #[.slice A n c, .int .i64 z] w (Fnd w (l.any (z == ·))) := by
  subst hn
  go_enter Tryd.func94, Tryd.ntmps94
  go_wp2
  go_loopw [8] (fun i wr => ∃ k : Nat, k ≤ l.length ∧ i = .int .i64 k ∧ Below w.heap.size w wr ∧ Hid ((l.take k).any (z == ·) = false)) (fun i _ => l.length - (intOf i).toNat)
  case atStart => exact ⟨0, by omega, rfl, Below.refl _ _, rfl⟩
  case round =>
    obtain ⟨k, hk, rfl, hbr, HA⟩ := hrel
    have hsw := hbr.size
    by_cases hlt : k < l.length
    · obtain ⟨bb, o, rfl, _, hc0⟩ := (hs.rd.below hbr hB).at_ (icells_at' hlt)
      have hsn : (l.take (k + 1)).any (z == ·) = (z == l[k]) := by rw [take_snoc l k hlt, List.any_append, HA.out]; simp
      have hyes : (z == l[k]) = true → l.any (z == ·) = true := fun h => List.any_eq_true.2 ⟨l[k], List.getElem_mem hlt, h⟩
      generalize l[k] = x at *
      have HS := Lib.hid hsn
      have HY := Lib.hid hyes
      clear hsn hyes
      cases hb : (z == x)
      · have HB := Lib.hid hb
        go_wp2
        go_roundw
        case rel => exact ⟨k + 1, by omega, by go_num, hbr, by show _ = _; rw [HS.out]; exact HB.out⟩
        case measure => simp [intOf]; omega
      · have HB := Lib.hid hb
        go_wp2
        go_ret
        exact ⟨_, rfl, by omega, by omega, hbr, by rw [HY.out HB.out]; simp⟩
    · have hkl : k = l.length := by omega
      subst hkl
      rw [List.take_of_length_le (Nat.le_refl _)] at HA
      go_wp2
      go_ret
      exact ⟨_, rfl, by omega, by omega, hbr, by rw [HA.out]; rfl⟩
set_option maxHeartbeats 400000 in
theorem contains_any (A : Option Addr) (n c : Nat) (l : List Int) (z : Int) (w : World) (B : Nat) (hn : n = l.length) (hs : Sl w B 1 A n c (icells l)) (hB : B ≤ w.heap.size) (hl : n ≤ 100000000000) :
    Calls Tryd.prog 85 #[.slice A n c, .int .i64 z] w (Tru w (l.any (z == ·))) := by
  go_enter Tryd.func85, Tryd.ntmps85
  have hI := Lib.hid (index_any A n c l z w B hn hs hB hl)
  clear hn hs hl
  go_wp2_with fail
  refine Calls.mono hI.out ?_
  rintro e w1 ⟨k, rfl, _, _, hb, hk⟩
  go_wp2
  go_ret
  exact ⟨rfl, hb⟩
end Go.Proofs.YtamhjgkigjpbhaaDoor
