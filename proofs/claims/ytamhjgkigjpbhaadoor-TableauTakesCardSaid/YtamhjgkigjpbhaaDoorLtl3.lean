/- The walk of layer 23: work at numbers, with the closure of spans. -/
import Derived.Test.YtamhjgkigjpbhaaDoorZaj
namespace Go.Proofs.YtamhjgkigjpbhaaDoor
open Go.RowKit

/-- What holds at the head of work's loop. -/
def WRel (f : List Nd) (w : World) (Bx k : Nat) (vs : Value) (wr : World) : Prop :=
  ∃ vo, scan (f.take k) 0 = (0, (runs (f.take k)).1.length) ∧ wr.ownsRow w.heap.size 3 1 vs (runs (f.take k)).1.length (icells (runs (f.take k)).1) ∧
    wr.heap[Bx]? = some (.cells #[vo] 25 (0, 0)) ∧ wr.ownsRow w.heap.size 3 1 vo k (icells (runs (f.take k)).2) ∧ Below Bx w wr ∧
    (∀ g, vs.ownBlock = some g → vo.ownBlock ≠ some g)

def WorkPost (f : List Nd) (w : World) (Bx : Nat) (en : Ending) (w' : World) : Prop :=
  ∃ vs vo, en = .returned (.tuple #[vs, .int .i64 (scan f 0).1]) ∧ Below Bx w w' ∧ w'.heap[Bx]? = some (.cells #[vo] 25 (0, 0)) ∧
    ((scan f 0).1 = 0 → w'.ownsRow w.heap.size 3 1 vs (runs f).1.length (icells (runs f).1) ∧ w'.ownsRow w.heap.size 3 1 vo f.length (icells (runs f).2))

theorem wrel_err {f : List Nd} {w wr : World} {Bx k : Nat} {vs : Value} (hlt : k < f.length) (h : WRel f w Bx k vs wr) (o : Obj) (er : Int) (he : bad f[k] (runs (f.take k)).1.length = er) (h0 : er ≠ 0) :
    WorkPost f w Bx (.returned (.tuple #[.slice none 0 0, .int .i64 er])) (wr.alloc o) := by
  obtain ⟨vo, h1, h2, h3, h4, h5, h6⟩ := h
  have hs := (scan_bad hlt h1 (by rw [he]; exact h0)).2
  rw [he] at hs
  refine ⟨_, vo, by rw [hs], h5.alloc ?_ _, (Below.heap_alloc _ _ _ (lt_of_block h3)).trans h3, fun h => absurd (hs.symm.trans h) h0⟩
  have := lt_of_block h3
  omega

theorem wrel_end {f : List Nd} {w wr : World} {Bx : Nat} {vs : Value} (h : WRel f w Bx f.length vs wr) : WorkPost f w Bx (.returned (.tuple #[vs, .int .i64 0])) wr := by
  obtain ⟨vo, h1, h2, h3, h4, h5, h6⟩ := h
  rw [List.take_of_length_le (Nat.le_refl _)] at h1 h2 h4
  exact ⟨vs, vo, by rw [h1], h5, h3, fun _ => ⟨h2, h4⟩⟩

theorem wrel_step {f : List Nd} {w wr w2 w3 w4 : World} {Bx k cut : Nat} {vs vo vs' : Value} {x : Nd} {st outs : List Int} {b : Int} {o : Obj} {n : Nat} {en : Ending} (hlt : k < f.length) (hx : f[k] = x) (hst : (runs (f.take k)).1 = st) (hout : (runs (f.take k)).2 = outs)
    (h1 : scan (f.take k) 0 = (0, st.length)) (hb0 : bad x st.length = 0) (hcut : cut = st.length - (takes x.op).toNat) (hle : takes x.op ≤ (st.length : Int)) (hge : 0 ≤ takes x.op)
    (hsz : w.heap.size ≤ wr.heap.size) (hBx : Bx < w.heap.size) (hown : wr.ownsRow w.heap.size 3 1 vs st.length (icells st)) (_hbox : wr.heap[Bx]? = some (.cells #[vo] 25 (0, 0)))
    (hvo : wr.ownsRow w.heap.size 3 1 vo k (icells outs)) (hbel : Below Bx w wr) (hdis : ∀ g, vs.ownBlock = some g → vo.ownBlock ≠ some g) (hb2 : Below (wr.alloc o).heap.size (wr.alloc o) w2)
    (hn : n = k) (hfb : frm k (st.drop cut) = b) (hp : SpanPost w2 w.heap.size Bx vo b outs en w3)
    (hs4 : w4.ownsRow w.heap.size 3 1 vs' (cut + 1) (icells (st.take cut) ++ [.int .i64 b])) (ht4 : Tch (fun g => vs.ownBlock = some g) (w3.alloc (.cells #[.int .i64 b] 3)) w4)
    (hat : vs'.ownBlock = vs.ownBlock ∨ vs'.ownBlock = some (w3.alloc (.cells #[.int .i64 b] 3)).heap.size) : WRel f w Bx (k + 1) vs' w4 := by
  obtain ⟨vo', _, hbox3, hvo3, ht3, hat3⟩ := hp
  have hlen : outs.length = k := by rw [← hout, runs_len, List.length_take]; omega
  have hr : runs (f.take (k + 1)) = (st.take cut ++ [b], outs ++ [b]) := by
    have hl2 : ((runs (f.take k)).2.length : Int) = k := by rw [hout, hlen]
    rw [runs_snoc hlt, hx, stp_frm _ _ (by rw [hst]; exact hle) hge, hst, hout, hlen, ← hcut, hfb]
  have hs := scan_ok hlt h1 (by rw [hx]; exact hb0)
  rw [hx] at hs
  have hl : (st.take cut ++ [b]).length = cut + 1 := by rw [List.length_append, List.length_take]; simp; omega
  have hcl : cut + 1 = st.length - (takes x.op).toNat + 1 := by omega
  have hBxr : Bx < wr.heap.size := by omega
  have hz2 := hb2.size
  have hz3 := ht3.size
  simp only [World.size_alloc] at hz2
  -- vs's block is neither the box nor vo's
  have hvsB : ∀ g, vs.ownBlock = some g → g ≠ Bx := fun g hg e => by have := (hown.lt g hg).1; omega
  have hvoB : ∀ g, vo.ownBlock = some g → g < wr.heap.size := fun g hg => (hvo.lt g hg).2
  have hvo'3 : ∀ g, vo'.ownBlock = some g → g < w3.heap.size ∧ w.heap.size ≤ g := fun g hg => ⟨(hvo3.lt g hg).2, (hvo3.lt g hg).1⟩
  have hdis3 : ∀ g, vs.ownBlock = some g → vo'.ownBlock ≠ some g := by
    intro g hg hg'
    rcases hat3 with h | ⟨g', h', h''⟩
    · rw [h] at hg'; exact hdis g hg hg'
    · rw [h''] at hg'
      cases hg'
      have := (hown.lt _ hg).2
      omega
  have ht34 : Tch (fun g => vs.ownBlock = some g) w3 w4 := Tch.trans ((Tch.refl _ w3).alloc _) ht4 (fun _ _ h => h)
  refine ⟨vo', ?_, ?_, ?_, ?_, ?_, ?_⟩
  · rw [hs, hr, hl, hcl]
  · rw [hr, hl, icells_append]; exact hs4
  · exact ht34.blk hbox3 (fun h => hvsB Bx h rfl)
  · rw [hr]
    have := own_tch hvo3 ht34 (fun g hg hg' => hdis3 g hg' hg)
    rwa [hlen] at this
  · have hbw2 : Below Bx wr w2 := ((Below.refl Bx wr).alloc (by omega) o).trans (hb2.mono (by simp; omega))
    have hbw3 : Below Bx w2 w3 := ht3.below (by omega) (fun g hg h => by
      rcases h with h | h
      · omega
      · have := (hvo.lt g h).1; omega)
    have hbw4 : Below Bx w3 w4 := ht34.below (by omega) (fun g hg h => by have := (hown.lt g h).1; omega)
    exact ((hbel.trans hbw2).trans hbw3).trans hbw4
  · intro g hg hg'
    rcases hat with h | h
    · rw [h] at hg; exact hdis3 g hg hg'
    · rw [h] at hg
      cases hg
      have := (hvo'3 _ hg').1
      simp at this
      omega

set_option maxHeartbeats 2000000 in
set_option maxRecDepth 100000 in
theorem work_any (A : Option Addr) (c : Nat) (f : List Nd) (w : World) (Bx : Nat) (hf : Sl w Bx 2 A f.length c (ncells f)) (hbox : w.heap[Bx]? = some (.cells #[.slice none 0 0] 25 (0, 0))) (hl : f.length ≤ 1000000000) :
    Calls Tryd.prog 72 #[.slice A f.length c, .func (.func 73) #[] #[.pointer (some ⟨Bx, 0, none⟩)]] w (WorkPost f w Bx) := by
  have hBx := lt_of_block hbox
  have hW0 : WRel f w Bx 0 (.slice none 0 0) w :=
    ⟨.slice none 0 0, by simp [runs, scan], by simpa [runs, icells] using World.ownsRow_nil w w.heap.size 3 1, hbox, by simpa [runs, icells] using World.ownsRow_nil w w.heap.size 3 1, Below.refl _ _, by simp [Value.ownBlock]⟩
  go_enter Tryd.func72, Tryd.ntmps72
  go_wp2
  go_loopw [6, 14] (fun v i wr => ∃ k : Nat, k ≤ f.length ∧ i = .int .i64 k ∧ WRel f w Bx k v wr) (fun _ i _ => f.length - (intOf i).toNat)
  case atStart => exact ⟨0, by omega, rfl, hW0⟩
  case round =>
    clear hW0
    obtain ⟨k, hk, rfl, hrel⟩ := hrel
    by_cases hlt : k < f.length
    · have hR := Lib.hid hrel
      obtain ⟨vo, h1, hown, hbx, hvo, hbel, hdis⟩ := hrel
      obtain ⟨b0, off, rfl, _, hc0, hc1⟩ := rd_nd (hf.rd.below hbel (Nat.le_refl _)) hlt
      have HT := takes_bd f[k].op
      generalize hst : (runs (f.take k)).1 = st at *
      generalize hout : (runs (f.take k)).2 = outs at *
      have hout_len : outs.length = k := by rw [← hout, runs_len, List.length_take]; omega
      have hst_len : st.length ≤ k := by rw [← hst]; have := runs1_le (f.take k); rw [List.length_take] at this; omega
      have Hst := Lib.hid hst
      have Hout := Lib.hid hout
      have H1 := Lib.hid h1
      have Hlen := Lib.hid hout_len
      clear hst hout h1 hout_len
      generalize hx : f[k] = x at *
      have Hx := Lib.hid hx
      clear hx
      obtain ⟨op, n⟩ := x
      dsimp only at *
      by_cases e1 : takes op < 0
      · go_wp2_with (first | (go_at_call 89; refine (takes_any _ _).mono ?_; rintro e w' ⟨rfl, rfl⟩))
        go_ret2
        exact wrel_err hlt hR.out _ 3 (by rw [Hx.out, bad_form e1]) (by omega)
      by_cases e2 : (st.length : Int) < takes op
      · obtain ⟨Av, cv, rfl, hsl⟩ := own_sl hown
        go_wp2_with (first | (go_at_call 89; refine (takes_any _ _).mono ?_; rintro e w' ⟨rfl, rfl⟩))
        go_ret2
        exact wrel_err hlt hR.out _ 4 (by rw [Hx.out, Hst.out, bad_short (by dsimp only; omega) e2]) (by omega)
      have e1' : 0 ≤ takes op := by omega
      have e2' : takes op ≤ (st.length : Int) := by omega
      clear e1 e2
      by_cases e3 : op = 3 ∧ (n < 0 ∨ 8 ≤ n)
      · obtain ⟨rfl, e3⟩ := e3
        obtain ⟨Av, cv, rfl, hsl⟩ := own_sl hown
        rw [takes3] at HT e1' e2'
        rcases e3 with e3 | e3
        all_goals
          go_wp2_with (first | (go_at_call 89; refine (takes_any _ _).mono ?_; rw [takes3]; rintro e w' ⟨rfl, rfl⟩))
          go_ret2
          exact wrel_err hlt hR.out _ 10 (by rw [Hx.out, Hst.out, bad_range (by simp [takes3]) (by simp [takes3]) rfl (by dsimp only; omega)]) (by omega)
      have hb0 : bad ⟨op, n⟩ st.length = 0 := bad_none e1' e2' (by dsimp only; omega)
      have Hb0 := Lib.hid hb0
      clear hb0
      obtain ⟨tk, htk⟩ : ∃ tk : Nat, takes op = tk := ⟨(takes op).toNat, by omega⟩
      have hcut : st.length - tk ≤ st.length := by omega
      have Htk := Lib.hid htk
      have htk1 : (tk : Int) ≤ (st.length : Int) := by omega
      have htk2 : (tk : Int) ≤ 2 := by omega
      clear htk e1' e2' HT
      obtain ⟨Av, cv, rfl, hsl⟩ := own_sl hown
      have hcv := hsl.cap
      have hcase : (cv = st.length - tk ∧ Sl (wr.alloc (.cells #[.int .i64 op, .int .i64 n] 47)) wr.heap.size 1 Av 0 0 (icells (st.drop (st.length - tk)))) ∨
          (cv ≠ st.length - tk ∧ Sl (wr.alloc (.cells #[.int .i64 op, .int .i64 n] 47)) wr.heap.size 1 (Option.map (fun x => x.add (st.length - tk)) Av) (st.length - (st.length - tk)) (cv - (st.length - tk)) (icells (st.drop (st.length - tk)))) := by
        have h := (hsl.below ((Below.refl wr.heap.size wr).alloc (Nat.le_refl _) (.cells #[.int .i64 op, .int .i64 n] 47)) (Nat.le_refl _)).drop hcut
        rw [← icells_drop] at h
        by_cases hcv : cv = st.length - tk
        · refine .inl ⟨hcv, ?_⟩
          have hz : st.length - (st.length - tk) = 0 := by have := hsl.cap; omega
          rw [if_pos hcv, hz, hcv, Nat.sub_self] at h
          exact h
        · refine .inr ⟨hcv, ?_⟩
          rw [if_neg hcv] at h
          simpa using h
      have hW1 : Below wr.heap.size wr (wr.alloc (.cells #[.int .i64 op, .int .i64 n] 47)) := (Below.refl wr.heap.size wr).alloc (Nat.le_refl _) _
      have hbx1 : (wr.alloc (.cells #[.int .i64 op, .int .i64 n] 47)).heap[Bx]? = some (.cells #[vo] 25 (0, 0)) := (Below.heap_alloc _ _ _ (lt_of_block hbx)).trans hbx
      have hsz := Nat.le_trans (Nat.le_of_lt hBx) hbel.size
      have hszr : w.heap.size ≤ wr.heap.size := hbel.size
      rcases (show (op = 3 ∧ 0 ≤ n ∧ n < 8) ∨ op ≠ 3 from by by_cases h : op = 3 <;> omega) with ⟨rfl, h5, h6⟩ | h3
      all_goals
        rcases hcase with ⟨rfl, hsc⟩ | ⟨hcv, hsc⟩
        all_goals
          go_wp2_with (first | (go_at_call 89; refine (takes_any _ _).mono ?_; rw [Htk.out]; rintro e w' ⟨rfl, rfl⟩))
          refine (cloneInt_any _ _ _ _ _ _ hsc (icells_one _) (by simp) (by omega)).mono ?_
          rintro e w2 ⟨v2, rfl, hown2, hb2, _⟩
          obtain ⟨A2, c2, rfl, hsl2⟩ := own_sl hown2
          have hbx2 := (hb2.block Bx (lt_of_block hbx1)).trans hbx1
          have hvo2 := own_below (own_below hvo hW1) hb2
          have hsw2 := hb2.size
          simp only [World.size_alloc] at hsw2
          go_wp2_with fail
          refine (span1_any _ _ _ _ (st.drop (st.length - tk)) (by rw [List.length_drop] <;> omega) Bx vo outs _ _ w.heap.size hsl2 hbx2 (by rw [Hlen.out]; exact hvo2) (by omega) (by rw [Hlen.out]; omega)).mono ?_
          rintro e w3 hp
          have hp' := hp
          obtain ⟨vo', rfl, hbx3, hvo3, ht3, hat3⟩ := hp'
          have hs3 := own_tch (own_below (own_below hown hW1) hb2) ht3 (fun g hg h => h.elim (fun h => by have := (hown.lt g hg).1; omega) (fun h => hdis g hg h))
          have hs3c := (own_cut_any hs3 hcut).alloc (.cells #[.int .i64 (frm k (st.drop (st.length - tk)))] 3)
          have hsw3 := ht3.size
          go_wp2_with (at_builtin; refine wpList_push rfl (.tmp 57) (.tmp 59) 25 rfl w.heap.size 3 1 8 sliceInt _ _ _ hs3c rfl w3.heap.size #[.int .i64 (frm k (st.drop (st.length - tk)))] rfl (heap_alloc_new w3 _) rfl (by simp [Value.oneCell']) (by omega) (by omega) (by simp; omega) ?_; intro v4 w4 hown4 ht4 hat4 _; rw [ownBlock_eq Av _ st.length _ _] at ht4 hat4)
          go_roundw
          case rel =>
            exact ⟨k + 1, by omega, by go_num, wrel_step (cut := st.length - tk) (x := ⟨_, n⟩) (b := frm k (st.drop (st.length - tk))) (n := k) hlt Hx.out Hst.out Hout.out H1.out Hb0.out (by rw [show takes _ = (tk : Int) from Htk.out]; simp) (by rw [show takes _ = (tk : Int) from Htk.out]; omega) (by rw [show takes _ = (tk : Int) from Htk.out]; omega)
              hszr hBx hown hbx hvo hbel hdis hb2 rfl rfl hp (by rw [icells_take]; exact hown4) ht4 hat4⟩
          case measure => simp [intOf]; omega
    · have : k = f.length := by omega
      subst this
      have hR := Lib.hid hrel
      clear hrel
      go_wp2
      go_ret2
      exact wrel_end hR.out
end Go.Proofs.YtamhjgkigjpbhaaDoor
