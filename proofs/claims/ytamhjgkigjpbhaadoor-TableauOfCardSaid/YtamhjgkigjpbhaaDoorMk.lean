/- Texts of one kind, in one file. -/
import Derived.Test.YtamhjgkigjpbhaaDoorMd
import Derived.Test.YtamhjgkigjpbhaaDoorMa
import Derived.Outline

/- (XR25a) The walks of the reference of layer 25: Takes, Begins. -/
namespace Go.Proofs.YtamhjgkigjpbhaaDoor
open Go.RowKit

/-- How many parts a node takes; -1: it is none that may be. -/
def takesV (x : Nd) : Int := if x.op = 3 ∧ ¬ (0 ≤ x.n ∧ x.n < 8) then -1 else takes x.op
theorem takesV_bd (x : Nd) : -1 ≤ takesV x ∧ takesV x ≤ 2 := by have := takes_bd x.op; unfold takesV; split <;> omega
theorem takesV_bad {x : Nd} {d : Nat} : bad x d = 0 ↔ 0 ≤ takesV x ∧ takesV x ≤ (d : Int) := by
  constructor
  · intro h
    obtain ⟨h0, h1, h2⟩ := good_takes h
    unfold takesV
    rw [if_neg (fun h => h.2 (h2 h.1))]
    exact ⟨h0, h1⟩
  · intro ⟨h0, h1⟩
    unfold takesV at h0 h1
    split at h0
    · omega
    · rename_i h
      rw [if_neg h] at h1
      refine bad_none h0 h1 ?_
      by_cases e : x.op = 3
      · exact .inr (Decidable.not_not.1 fun h' => h ⟨e, h'⟩)
      · exact .inl e
theorem takesV_eq {x : Nd} (h : 0 ≤ takesV x) : takesV x = takes x.op := by
  unfold takesV at h ⊢
  split at h
  · omega
  · rename_i h'; rw [if_neg h']

set_option maxHeartbeats 1000000 in
theorem Takes_any (x : Nd) (w : World) :
    Calls Tryd.prog 33 #[.agg #[.int .i64 x.op, .int .i64 x.n]] w fun e w' => e = .returned (.int .i64 (takesV x)) ∧ w' = w.alloc (.cells #[.int .i64 x.op, .int .i64 x.n] 47) := by
  obtain ⟨op, n⟩ := x
  by_cases h3 : op = 3
  · subst h3
    by_cases h0 : 0 ≤ n
    · by_cases h8 : n < 8
      all_goals
        go_enter Tryd.func33, Tryd.ntmps33
        go_wp2
        go_ret
        exact ⟨ret_int (by simp [takesV, takes]; omega), rfl⟩
    · go_enter Tryd.func33, Tryd.ntmps33
      go_wp2
      go_ret
      exact ⟨ret_int (by simp [takesV, takes]; omega), rfl⟩
  · go_enter Tryd.func33, Tryd.ntmps33
    go_wp2
    all_goals (go_ret; exact ⟨ret_int (by simp_all [takesV, takes]), rfl⟩)

theorem chain_zero {o r : List Int} (h : Chain o 0 r) : r = [] := by
  cases r with
  | nil => rfl
  | cons b r => obtain ⟨k, _, hk, _⟩ := h; omega
theorem chain_pos {o r : List Int} {i : Nat} (h : Chain o i r) (hi : 0 < i) : ∃ (k : Nat) (r' : List Int), r = (k : Int) :: r' ∧ k < i ∧ o[i - 1]? = some (k : Int) ∧ Chain o k r' := by
  cases r with
  | nil => simp only [Chain] at h; omega
  | cons b r => obtain ⟨k, hb, hk, ho, hc⟩ := h; subst hb; exact ⟨k, r, rfl, hk, ho, hc⟩
theorem drop_rev {st r : List Int} {k : Nat} {b : Int} (h : st.reverse.drop k = b :: r) : ∃ hk : k < st.length, st[st.length - (k + 1)]'(by omega) = b ∧ st.reverse.drop (k + 1) = r := by
  have hk : k < st.length := by
    rcases Nat.lt_or_ge k st.length with h' | h'
    · exact h'
    · rw [List.drop_eq_nil_of_le (by simpa using h')] at h; cases h
  have hk' : k < st.reverse.length := by simpa using hk
  rw [List.drop_eq_getElem_cons hk'] at h
  injection h with h1 h2
  refine ⟨hk, ?_, h2⟩
  rw [← h1, List.getElem_reverse]
  congr 1
  omega

/-- What holds at the head of Begins' outer loop, k nodes gone over. -/
def BRel (f : List Nd) (w : World) (k : Nat) (vo : Value) (wr : World) : Prop :=
  scan (f.take k) 0 = (0, (runs (f.take k)).1.length) ∧ Chain (runs (f.take k)).2 k (runs (f.take k)).1.reverse ∧
    wr.ownsRow w.heap.size 3 1 vo k (icells (runs (f.take k)).2) ∧ Below w.heap.size w wr
/-- What it answers. -/
def BegPost (f : List Nd) (w : World) (en : Ending) (w' : World) : Prop :=
  ∃ v, en = .returned (.tuple #[v, .bool (wrong f == 0)]) ∧ w'.ownsRow w.heap.size 3 1 v (spans f).length (icells (spans f)) ∧ Below w.heap.size w w' ∧ (v = .slice none 0 0 ↔ spans f = [])
theorem beg_no {f : List Nd} {w w' : World} (h : wrong f ≠ 0) (hb : Below w.heap.size w w') : BegPost f w (.returned (.tuple #[.slice none 0 0, .bool false])) w' := by
  have hs := (spans_nil_iff f).2 h
  refine ⟨_, by rw [show (wrong f == 0) = false by simpa using h], ?_, hb, by simp [hs]⟩
  rw [hs]; exact World.ownsRow_nil _ _ _ _
theorem beg_wrong {f : List Nd} {k d : Nat} (hk : k < f.length) (hs : scan (f.take k) 0 = (0, d)) (hb : bad f[k] d ≠ 0) : wrong f ≠ 0 := by rw [(scan_bad hk hs hb).1]; exact hb
end Go.Proofs.YtamhjgkigjpbhaaDoor

/- (XR25b) The walk of the reference of layer 25: Begins. -/
namespace Go.Proofs.YtamhjgkigjpbhaaDoor
open Go.RowKit

set_option maxHeartbeats 4000000 in
set_option maxRecDepth 100000 in
theorem Begins_any (A : Option Addr) (c : Nat) (f : List Nd) (w : World) (B : Nat) (hf : Sl w B 2 A f.length c (ncells f)) (hB : B ≤ w.heap.size) (hl : f.length ≤ 8796093022208) :
    Calls Tryd.prog 17 #[.slice A f.length c] w (BegPost f w) := by
  have hR0 : BRel f w 0 (.slice none 0 0) w := ⟨by simp [runs, scan], by simp [runs, Chain], by simpa [runs, icells] using World.ownsRow_nil w w.heap.size 3 1, Below.refl _ _⟩
  go_enter Tryd.func17, Tryd.ntmps17
  go_wp2
  go_loopw [4, 5] (fun vo i wr => ∃ k : Nat, k ≤ f.length ∧ i = .int .i64 k ∧ BRel f w k vo wr) (fun _ i _ => f.length - (intOf i).toNat)
  case atStart => exact ⟨0, by omega, rfl, hR0⟩
  case round =>
    clear hR0
    obtain ⟨k, hk, rfl, hrel⟩ := hrel
    by_cases hlt : k < f.length
    · obtain ⟨h1, hch, hown, hbel⟩ := hrel
      obtain ⟨b0, off, rfl, _, hc0, hc1⟩ := rd_nd (hf.rd.below hbel hB) hlt
      generalize hst : (runs (f.take k)).1 = st at *
      generalize hout : (runs (f.take k)).2 = outs at *
      have hout_len : outs.length = k := by rw [← hout, runs_len, List.length_take]; omega
      have Hst := Lib.hid hst
      have Hout := Lib.hid hout
      have H1 := Lib.hid h1
      have Hlen := Lib.hid hout_len
      have Hch := Lib.hid hch
      clear hst hout h1 hout_len hch
      generalize hx : f[k] = x at *
      have Hx := Lib.hid hx
      clear hx
      have hsz := hbel.size
      have hT := takesV_bd x
      by_cases e1 : takesV x < 0
      · go_wp2_with (first | (go_at_call 33; refine (Takes_any x _).mono ?_; rintro e w' ⟨rfl, rfl⟩))
        go_ret2
        exact beg_no (beg_wrong hlt H1.out (by rw [Hx.out]; intro h; have := (takesV_bad.1 h).1; omega)) (hbel.alloc hsz _)
      obtain ⟨tk, htk⟩ : ∃ tk : Nat, takesV x = tk := ⟨(takesV x).toNat, by omega⟩
      have Htk := Lib.hid htk
      have htk2 : (tk : Int) ≤ 2 := by omega
      clear htk e1 hT
      obtain ⟨wo, hwo⟩ : ∃ wo : World, wo = wr.alloc (.cells #[.int .i64 x.op, .int .i64 x.n] 47) := ⟨_, rfl⟩
      have hbo : Below wr.heap.size wr wo := by rw [hwo]; exact (Below.refl _ _).alloc (Nat.le_refl _) _
      go_wp2_with (first | (go_at_call 33; refine (Takes_any x _).mono ?_; rw [Htk.out]; rintro e w' ⟨rfl, rfl⟩))
      rw [← hwo]
      clear hwo
      have hown' := own_below hown hbo
      have hbel' : Below w.heap.size w wo := hbel.trans (hbo.mono hsz)
      obtain ⟨Ao, co, rfl, hso⟩ := own_sl hown'
      rw [show (k : Nat) = k from rfl] at hown'
      go_loop [7, 8] (fun fr kk => ∃ m q : Nat, m ≤ tk ∧ m ≤ st.length ∧ q ≤ k ∧ kk = .int .i64 m ∧ fr = .int .i64 q ∧ Chain outs q (st.reverse.drop m) ∧ Hid (frm k (st.drop (st.length - m)) = (q : Int))) (fun _ kk => tk - (intOf kk).toNat)
      case atStart => exact ⟨0, k, by omega, by omega, by omega, rfl, rfl, by simpa using Hch.out, frm_none (by omega)⟩
      case round =>
        obtain ⟨m, q, hm, hms, hqk, rfl, rfl, hcq, HF⟩ := hrel
        have HC := Lib.hid hcq
        clear hcq
        by_cases hmt : m < tk
        · by_cases hq0 : q = 0
          · subst hq0
            have hnil := chain_zero HC.out
            have hle : st.length ≤ m := by
              have := congrArg List.length hnil
              simp at this; omega
            have HN := Lib.hid hnil
            clear hnil
            go_wp2
            go_ret2
            exact beg_no (beg_wrong hlt H1.out (by rw [Hx.out]; intro h; have := (takesV_bad.1 h).2; rw [Htk.out] at this; omega)) hbel'
          · obtain ⟨q', r', hr', hqq, hoq, hcq'⟩ := chain_pos HC.out (by omega)
            obtain ⟨hmlt, hget, hdr⟩ := drop_rev hr'
            have hq1 : q - 1 < outs.length := by rw [Hlen.out]; omega
            obtain ⟨_, o1, rfl, _, hcell⟩ := hso.rd.at_ (j := q - 1) (u := .int .i64 q') (by simp [icells, hoq])
            have hfrm : frm k (st.drop (st.length - (m + 1))) = (q' : Int) := by rw [frm_pos (by omega)]; exact hget
            have HFR := Lib.hid hfrm
            have HDR := Lib.hid hdr
            have HCQ := Lib.hid hcq'
            clear hr' hoq hget hdr hfrm hcq' hq1
            go_wp2
            go_round
            case rel => exact ⟨m + 1, q', by omega, by omega, by omega, by go_num, rfl, by rw [HDR.out]; exact HCQ.out, HFR.out⟩
            case measure => simp [intOf]; omega
        · have hmt' : m = tk := by omega
          subst hmt'
          have htk1 : (m : Int) ≤ (st.length : Int) := by omega
          have hb0 : bad x st.length = 0 := takesV_bad.2 ⟨by rw [Htk.out]; omega, by rw [Htk.out]; omega⟩
          have htake : takes x.op = (m : Int) := by rw [← takesV_eq (by rw [Htk.out]; omega)]; exact Htk.out
          have hr : runs (f.take (k + 1)) = (st.take (st.length - m) ++ [(q : Int)], outs ++ [(q : Int)]) := by
            rw [runs_snoc hlt, Hx.out, stp_frm _ _ (by rw [Hst.out]; omega) (by omega), Hst.out, Hout.out, Hlen.out, htake, Int.toNat_natCast, HF.out]
          have hs1 : scan (f.take (k + 1)) 0 = (0, st.length - m + 1) := by
            have := scan_ok hlt H1.out (by rw [Hx.out]; exact hb0)
            rw [Hx.out, htake, Int.toNat_natCast] at this
            exact this
          have hch1 : Chain (runs (f.take (k + 1))).2 (k + 1) (runs (f.take (k + 1))).1.reverse := by
            rw [runs_snoc hlt, Hx.out]
            have := (chain_step (i := k) (x := x) (st := (runs (f.take k)).1) (o := (runs (f.take k)).2) (by rw [Hout.out]; exact Hlen.out) (by rw [Hst.out, Hout.out]; exact Hch.out) (by rw [Hst.out]; exact hb0)).1
            exact this
          have HR := Lib.hid hr
          have HS1 := Lib.hid hs1
          have HCH1 := Lib.hid hch1
          clear hr hs1 hch1 htake hb0
          have hzo := hbel'.size
          go_wp2_with (at_builtin; refine wpList_pushB rfl (.tmp 35) (.tmp 37) 25 rfl w.heap.size 3 1 8 sliceInt _ _ _ (hown'.alloc _) rfl wo.heap.size #[.int .i64 q] rfl (heap_alloc_new wo _) rfl (by simp [Value.oneCell']) (by omega) (by omega) (by simp; omega) ?_; intro v3 w3 hown3 ht3 hat3 hne3)
          go_roundw
          case rel =>
            refine ⟨k + 1, by omega, by go_num, ?_, HCH1.out, ?_, ?_⟩
            · rw [HS1.out, HR.out]
              congr 1
              simp only [List.length_append, List.length_take, List.length_cons, List.length_nil]
              omega
            · rw [HR.out, icells_append]; exact hown3
            · exact (hbel'.alloc hzo _).trans (ht3.below (by simp; omega) (fun g hg h => by have := (hown'.lt g h).1; omega))
          case measure => simp [intOf]; omega
    · have hkl : k = f.length := by omega
      subst hkl
      obtain ⟨h1, hch, hown, hbel⟩ := hrel
      rw [List.take_of_length_le (Nat.le_refl _)] at h1 hch hown
      by_cases h0 : f.length = 0
      · have h0' : ((f.length : Int) == 0) = true := by simp [h0]
        have hwr : wrong f ≠ 0 := by rw [List.eq_nil_of_length_eq_zero h0]; decide
        have HW := Lib.hid hwr
        clear h0 hwr h1 hch hown
        go_wp2
        go_ret2
        exact beg_no HW.out hbel
      · have h0' : ((f.length : Int) == 0) = false := by simp; rintro rfl; simp at h0
        have hne : f ≠ [] := by rintro rfl; simp at h0
        obtain ⟨q, r, hr, hqn, hoq, hcr⟩ := chain_pos hch (by omega)
        obtain ⟨Ao, co, rfl, hso⟩ := own_sl hown
        obtain ⟨_, o1, rfl, _, hcell⟩ := hso.rd.at_ (j := f.length - 1) (u := .int .i64 q) (by simp [icells, hoq])
        have hW : wrong f = if 1 < (runs f).1.length then 5 else 0 := by rw [wrong_run hne, h1]; rfl
        have hlen := congrArg List.length hr
        simp only [List.length_reverse, List.length_cons] at hlen
        have h01 : (0 : Int) ≤ (f.length : Int) - 1 := by omega
        have h02 : (f.length : Int) - 1 < (f.length : Int) := by omega
        have HW := Lib.hid hW
        have HR := Lib.hid hlen
        clear h1 hr hW hoq hch hlen
        by_cases hq0 : q = 0
        · subst hq0
          have hr0 := chain_zero hcr
          have hw0 : wrong f = 0 := by rw [HW.out, HR.out, hr0]; rfl
          have HW0 := Lib.hid hw0
          clear hr0 hw0 hcr
          go_wp2
          go_ret2
          have hsp : spans f = (runs f).2 := by simp [spans, HW0.out]
          have hne2 : ¬ spans f = [] := by rw [spans_nil_iff]; simp [HW0.out]
          refine ⟨_, by rw [show (wrong f == 0) = true by simp [HW0.out]]; rfl, ?_, hbel, by simp [hne2]⟩
          rw [hsp, runs_len]; exact hown
        · have hr1 : r ≠ [] := by rintro rfl; simp only [Chain] at hcr; omega
          have hwn : wrong f ≠ 0 := by
            rw [HW.out, HR.out, if_pos (by have := List.length_pos_iff.2 hr1; omega)]; omega
          have HWN := Lib.hid hwn
          have hq' : ((q : Int) != 0) = true := by simp; omega
          clear hwn hr1 hcr hown
          go_wp2
          go_ret2
          exact beg_no HWN.out hbel
end Go.Proofs.YtamhjgkigjpbhaaDoor

/- (XR25c) The walks of the reference of layer 25: Parts, Is. -/
namespace Go.Proofs.YtamhjgkigjpbhaaDoor
open Go.RowKit

/-- The parts of a node x that stands at k, s telling where parts begin. -/
def partsV (s : List Int) (k : Nat) (x : Nd) : Int × Int :=
  if takesV x = 1 then ((k : Int) - 1, -1) else if takesV x = 2 then (s[k - 1]?.getD 0 - 1, (k : Int) - 1) else (-1, -1)

set_option maxHeartbeats 1000000 in
theorem Parts_any (A : Option Addr) (n c : Nat) (f : List Nd) (A' : Option Addr) (n' c' : Nat) (s : List Int) (k : Nat) (w : World) (B B' : Nat) (hn : n = f.length) (hn' : n' = s.length) (hf : Sl w B 2 A n c (ncells f)) (hs : Sl w B' 1 A' n' c' (icells s))
    (_hB : B ≤ w.heap.size) (_hB' : B' ≤ w.heap.size) (hl : f.length ≤ 1000000000) (hk : k < f.length) (h2 : takesV f[k] = 2 → 1 ≤ k ∧ ∃ v : Int, s[k - 1]? = some v ∧ 0 ≤ v ∧ v ≤ 1000000000) :
    Calls Tryd.prog 61 #[.slice A n c, .slice A' n' c', .int .i64 k] w (Num2 w (partsV s k f[k])) := by
  subst hn
  obtain ⟨b0, off, rfl, _, hc0, hc1⟩ := rd_nd hf.rd hk
  have hp : ∀ x, f[k] = x → partsV s k f[k] = partsV s k x := fun x h => by rw [h]
  generalize hx : f[k] = x at *
  have Hx := Lib.hid hx
  clear hx hp
  have hT := takesV_bd x
  by_cases e1 : takesV x = 1
  · have HP : Hid (partsV s k x = ((k : Int) - 1, -1)) := by show _ = _; unfold partsV; rw [if_pos e1]
    have HE := Lib.hid e1
    clear e1 hT h2
    go_enter Tryd.func61, Tryd.ntmps61
    go_wp2_with (first | (go_at_call 33; refine (Takes_any x _).mono ?_; rw [HE.out]; rintro e w' ⟨rfl, rfl⟩))
    go_ret2
    exact num2_of HP.out ((Below.refl _ _).alloc (Nat.le_refl _) _)
  · by_cases e2 : takesV x = 2
    · obtain ⟨hk1, v, hv, hv0, hv1⟩ := h2 e2
      have HP : Hid (partsV s k x = (v - 1, (k : Int) - 1)) := by show _ = _; unfold partsV; rw [if_neg e1, if_pos e2, hv]; rfl
      have HE := Lib.hid e2
      obtain ⟨_, o1, rfl, _, hcs⟩ := hs.rd.at_ (j := k - 1) (u := .int .i64 v) (by simp [icells, hv])
      have hks : k - 1 < s.length := (List.getElem?_eq_some_iff.1 hv).1
      have hb : k - 1 < n' := by rw [hn']; exact hks
      have HN' := Lib.hid hn'
      clear e1 e2 hT h2 hv hn' hks
      have hh : ((k : Int) - 1) < (n' : Int) := by omega
      go_enter Tryd.func61, Tryd.ntmps61
      have hcs1 := fun (o : Obj) => (Below.cell ((Below.refl w.heap.size w).alloc (Nat.le_refl _) o) (p := ⟨_, o1 + (k - 1), none⟩) (World.block_lt_of_cell? _ _ hcs)).trans hcs
      go_wp2_with (first | (go_at_call 33; refine (Takes_any x _).mono ?_; rw [HE.out]; rintro e w' ⟨rfl, rfl⟩))
      go_ret2
      exact num2_of HP.out ((Below.refl _ _).alloc (Nat.le_refl _) _)
    · have HP : Hid (partsV s k x = (-1, -1)) := by show _ = _; unfold partsV; rw [if_neg e1, if_neg e2]
      rcases (show takesV x = -1 ∨ takesV x = 0 by omega) with e0 | e0
      all_goals
        have HE := Lib.hid e0
        clear e0 e1 e2 hT h2
        go_enter Tryd.func61, Tryd.ntmps61
        go_wp2_with (first | (go_at_call 33; refine (Takes_any x _).mono ?_; rw [HE.out]; rintro e w' ⟨rfl, rfl⟩))
        go_ret2
        exact num2_of HP.out ((Below.refl _ _).alloc (Nat.le_refl _) _)

set_option maxHeartbeats 2000000 in
theorem IsR_any (A : Option Addr) (c : Nat) (f : List Nd) (w : World) (B : Nat) (hf : Sl w B 2 A f.length c (ncells f)) (hB : B ≤ w.heap.size) (hl : f.length ≤ 8796093022208) :
    Calls Tryd.prog 7 #[.slice A f.length c] w (Tru w (isN f)) := by
  go_enter Tryd.func7, Tryd.ntmps7
  go_wp2_with fail
  refine (Begins_any A c f _ B hf hB (by omega)).mono ?_
  rintro e w1 ⟨v1, rfl, hown1, hb1, _⟩
  clear hown1
  by_cases hw : wrong f = 0
  · have hw' : (wrong f == 0) = true := by simp [hw]
    have HW := Lib.hid hw
    clear hw
    go_wp2
    go_loop [5] (fun i => ∃ k : Nat, k ≤ f.length ∧ i = .int .i64 k ∧ Hid (isNl 0 (f.take k) = true)) (fun i => f.length - (intOf i).toNat)
    case atStart => exact ⟨0, by omega, rfl, rfl⟩
    case round =>
      obtain ⟨k, hk, rfl, HN⟩ := hrel
      by_cases hlt : k < f.length
      · obtain ⟨b, o, rfl, _, hc0, hc1⟩ := rd_nd (hf.rd.below hb1 hB) hlt
        have hno := fun h => isNl_no hlt h
        have hok := fun h => isNl_ok hlt HN.out h
        have hnf := fun h => not_first HW.out hlt h
        have hla := fun h1 => lastOp_take hlt h1
        have HNO := Lib.hid hno
        have HOK := Lib.hid hok
        clear hno hok
        generalize hx : f[k] = x at *
        obtain ⟨op, n⟩ := x
        dsimp only at *
        have Hx := Lib.hid hx
        clear hx
        by_cases h4 : op = 4
        · subst h4
          have hk1 : 1 ≤ k := hnf (by decide)
          have hlo := hla hk1
          obtain ⟨b', o', e', _, hd0, hd1⟩ := rd_nd (hf.rd.below hb1 hB) (k := k - 1) (by omega)
          cases e'
          clear hnf hla
          generalize hy : f[k - 1] = y at *
          obtain ⟨op', n'⟩ := y
          dsimp only at *
          have HLO := Lib.hid hlo
          have HY := Lib.hid hy
          clear hlo hy
          by_cases h3 : op' = 3
          · subst h3
            go_wp2
            go_round
            case rel => exact ⟨k + 1, by omega, by go_num, HOK.out (by rw [HLO.out]; rfl)⟩
            case measure => simp [intOf]; omega
          · go_wp2
            go_ret
            exact ⟨ret_bool (by rw [HNO.out (by rw [HLO.out]; simp [okN, h3])]), hb1⟩
        · clear hnf hla
          by_cases h7 : op = 7 ∨ op = 11 ∨ op = 12
          · rcases h7 with rfl | rfl | rfl
            all_goals
              go_wp2
              go_ret
              exact ⟨ret_bool (by rw [HNO.out (by simp [okN])]), hb1⟩
          · have e7 : op ≠ 7 := fun h => h7 (.inl h)
            have e11 : op ≠ 11 := fun h => h7 (.inr (.inl h))
            have e12 : op ≠ 12 := fun h => h7 (.inr (.inr h))
            clear h7
            go_wp2
            go_round
            case rel => exact ⟨k + 1, by omega, by go_num, HOK.out (by simp [okN, h4, e7, e11, e12])⟩
            case measure => simp [intOf]; omega
      · have hkl : k = f.length := by omega
        subst hkl
        go_wp2
        go_ret
        exact ⟨ret_bool (by rw [isN_end HW.out HN.out]), hb1⟩
  · have hw' : (wrong f == 0) = false := by simpa using hw
    have HW := Lib.hid hw
    clear hw
    go_wp2
    go_ret
    exact ⟨ret_bool (by rw [isN_wrong HW.out]), hb1⟩
end Go.Proofs.YtamhjgkigjpbhaaDoor
