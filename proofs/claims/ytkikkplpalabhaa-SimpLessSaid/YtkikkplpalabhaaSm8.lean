/- The walk of layer 26: Once. -/
import Derived.Test.YtkikkplpalabhaaSm7
import Derived.Test.YtkikkplpalabhaaClF
import Derived.Test.YtkikkplpalabhaaNnf3
import Derived.Test.YtkikkplpalabhaaMe
namespace Go.Proofs.Ytkikkplpalabhaa
open Go.RowKit

/-- The stack at the head of a round. -/
def ORel (w : World) (st : List (List Nd)) (v : Value) (wr : World) : Prop := ∃ vs, Stk wr w.heap.size v st vs ∧ Below w.heap.size w wr
theorem orel_push {w wr w2 w3 : World} {v v3 : Value} {st : List (List Nd)} {vs : List Value} {A : Option Addr} {c : Nat} {r : List Nd} {n : Nat} (hS : Stk wr w.heap.size v st vs) (hbw : Below w.heap.size w wr) (hb : Below wr.heap.size wr w2) (hn : n = r.length)
    (hr : Sl w2 w2.heap.size 2 A n c (ncells r)) (hA : Nb w2 A) (hown : w3.ownsRow w.heap.size 66 1 v3 (st.length + 1) (vs ++ [.slice A n c])) (ht : Tch (fun k => v.ownBlock = some k) (w2.alloc (.cells #[.slice A n c] 66)) w3) :
    ORel w (st ++ [r]) v3 w3 := by
  subst hn
  have hb1 : Below w2.heap.size w2 (w2.alloc (.cells #[.slice A r.length c] 66)) := (Below.refl _ _).alloc (Nat.le_refl _) _
  refine ⟨_, (hS.below hb).push hr hA hown (Tch.trans ((Tch.refl _ w2).alloc _) ht (fun _ _ h => h)), ?_⟩
  have hz := hbw.size
  have hz2 := hb.size
  exact hbw.trans ((hb.mono hz).trans ((hb1.mono (by omega)).trans (ht.below (by simp; omega) (fun g hg hg' => by have := (hS.1.lt g hg').1; omega))))
theorem orel_set {w wr w2 : World} {st : List (List Nd)} {vs : List Value} {A : Option Addr} {c g n cap j : Nat} {r : List Nd} (hS : Stk wr w.heap.size (.slice (some ⟨g, 0, none⟩) n cap) st vs) (hbw : Below w.heap.size w wr) (hb : Below wr.heap.size wr w2)
    (hr : Sl w2 w2.heap.size 2 A r.length c (ncells r)) (hA : Nb w2 A) : ORel w (st.set j r) (.slice (some ⟨g, 0, none⟩) n cap) (w2.setCell ⟨g, j, none⟩ (.slice A r.length c)) := by
  refine ⟨_, (hS.below hb).set j hr hA, ?_⟩
  have hz := hbw.size
  exact (hbw.trans (hb.mono hz)).setCell (show w.heap.size ≤ g from (hS.1.lt g rfl).1) _

/-- The four operations of two parts. -/
theorem hid_two (op : Int) (A : Option Addr) (n c : Nat) (A2 : Option Addr) (n2 c2 : Nat) (a b : List Nd) (w : World) (B B2 : Nat) (hs : Sl w B 2 A n c (ncells a)) (hs2 : Sl w B2 2 A2 n2 c2 (ncells b)) (hA : Nb w A) (hA2 : Nb w A2) (hn : n = a.length) (hn2 : n2 = b.length) (hne : 0 < n) (hne2 : 0 < n2) (hB : B ≤ w.heap.size) (hB2 : B2 ≤ w.heap.size)
    (hl : n + n2 ≤ 100000) (hk : KOk n (kids a ((n : Int) - 1))) (hk2 : KOk n2 (kids b ((n2 : Int) - 1))) (ho : op = 5 ∨ op = 6 ∨ op = 9 ∨ op = 10) :
    Calls Try.prog 60 #[.int .i64 op, .slice A n c, .slice A2 n2 c2] w (FormPost w (twoL op a b)) := by
  rcases ho with rfl | rfl | rfl | rfl
  · exact two5_any A A2 n c n2 c2 a b w B B2 hs hs2 hA hA2 hn hn2 hne hne2 hB hB2 hl hk hk2
  · exact two6_any A A2 n c n2 c2 a b w B B2 hs hs2 hA hA2 hn hn2 hne hne2 hB hB2 hl hk hk2
  · exact two9_any A A2 n c n2 c2 a b w B B2 hs hs2 hA hA2 hn hn2 hne hne2 hB hB2 hl hk2
  · exact two10_any A A2 n c n2 c2 a b w B B2 hs hs2 hA hA2 hn hn2 hne hne2 hB hB2 hl hk2
/-- The stack but for the two on top, in any later world. -/
structure CutS (w : World) (B k : Nat) (v : Value) (st : List (List Nd)) (vs : List Value) : Prop where
  stk : Stk w B v (st.take k) (vs.take k)
  len : (st.take k).length = k
theorem CutS.below {w w1 : World} {B k : Nat} {v : Value} {st : List (List Nd)} {vs : List Value} (h : CutS w B k v st vs) (hb : Below w.heap.size w w1) : Hid (Stk w B v (st.take k) (vs.take k) ∧ w1.ownsRow B 66 1 v k (vs.take k)) := by
  have h2 := (h.stk.below hb).1
  rw [h.len] at h2
  exact Lib.hid ⟨h.stk, h2⟩
theorem orel_two_cut {w : World} {B g n cap k : Nat} {st : List (List Nd)} {vs : List Value} (h : Stk w B (.slice (some ⟨g, 0, none⟩) n cap) st vs) (hk : k ≤ st.length) : CutS w B k (.slice (some ⟨g, 0, none⟩) k cap) st vs :=
  ⟨h.cut hk, by rw [List.length_take]; omega⟩

set_option maxHeartbeats 8000000 in
set_option maxRecDepth 100000 in
theorem once_any (A : Option Addr) (c : Nat) (f : List Nd) (w : World) (B : Nat) (hf : Sl w B 2 A f.length c (ncells f)) (hB : B ≤ w.heap.size) (hl : f.length ≤ 10000) :
    Calls Try.prog 23 #[.slice A f.length c] w (NewRow w 42 2 (onceL f).length (ncells (onceL f)) (onceL f = [])) := by
  have hI := Is_any A c f w B hf hB (by omega)
  by_cases hN : isN f = true
  rotate_left 1
  · have hN' : isN f = false := by simpa using hN
    have ho : onceL f = [] := onceL_none hN'
    rw [ho]
    rw [hN'] at hI
    have HI := Lib.hid hI
    clear hN hN' ho hI
    go_enter Try.func23, Try.ntmps23
    go_wp2_with fail
    refine Calls.mono HI.out ?_
    rintro e w1 ⟨rfl, hb1⟩
    go_wp2
    go_ret
    exact ⟨_, rfl, by simpa [ncells] using World.ownsRow_nil w1 w.heap.size 42 2, hb1, by simp⟩
  rw [hN] at hI
  have HI := Lib.hid hI
  have HN := Lib.hid hN
  clear hI hN
  go_enter Try.func23, Try.ntmps23
  go_wp2_with fail
  refine Calls.mono HI.out ?_
  rintro e w1 ⟨rfl, hb1⟩
  go_wp2
  go_loopw [3, 12] (fun v i wr => ∃ k : Nat, k ≤ f.length ∧ i = .int .i64 k ∧ ORel w (stkL f k) v wr) (fun _ i _ => f.length - (intOf i).toNat)
  case atStart => exact ⟨0, by omega, rfl, [], Stk.nil _ _, hb1⟩
  case round =>
    clear hb1
    obtain ⟨k, hk, rfl, hrel⟩ := hrel
    have HOK := Lib.hid (stkL_ok HN.out hk)
    by_cases hlt : k < f.length
    · obtain ⟨vs, hS, hbr⟩ := hrel
      obtain ⟨b, o, rfl, hbB, hc0, hc1⟩ := rd_nd (hf.rd.below hbr hB) hlt
      have HST := Lib.hid (stkL_step hlt)
      have hnx := (next_ok HN.out hlt HOK.out).op
      generalize f[k] = x at *
      obtain ⟨op, m⟩ := x
      dsimp only at *
      generalize stkL f k = st at *
      have hdl := HOK.out.le
      have hzr := hbr.size
      have hbx : Below wr.heap.size wr (wr.alloc (.cells #[.int .i64 op, .int .i64 m] 42)) := (Below.refl _ _).alloc (Nat.le_refl _) _
      rcases hnx with rfl | rfl | rfl | ⟨rfl, hd⟩ | ⟨rfl, hd⟩ | ⟨h4, hd⟩
      · obtain ⟨Av, cv, rfl, hsv⟩ := own_sl hS.1
        have hs1 := hS.below hbx
        have hbn : Below wr.heap.size wr ((wr.alloc (.cells #[.int .i64 1, .int .i64 m] 42)).alloc (.cells #[.int .i64 1, .int .i64 0] 42)) := hbx.alloc (by simp) _
        have hs2 := hS.below hbn
        have hs3 := own_below hs2.1 ((Below.refl _ _).alloc (Nat.le_refl _) (.cells #[.slice (some ⟨wr.heap.size + 1, 0, none⟩) 1 1] 66))
        have hown3 := Lib.hid hs3
        have hnew : ((wr.alloc (.cells #[.int .i64 1, .int .i64 m] 42)).alloc (.cells #[.int .i64 1, .int .i64 0] 42)).heap.size = wr.heap.size + 1 + 1 := by rw [World.size_alloc, World.size_alloc]
        have hnew3 := heap_alloc_new ((wr.alloc (.cells #[.int .i64 1, .int .i64 m] 42)).alloc (.cells #[.int .i64 1, .int .i64 0] 42)) (.cells #[.slice (some ⟨wr.heap.size + 1, 0, none⟩) 1 1] 66)
        rw [hnew] at hnew3
        have HNEW3 := Lib.hid hnew3
        clear hs1 hs2 hs3 hnew hnew3
        go_wp2_with (at_builtin; refine wpList_push rfl (.tmp 42) (.tmp 47) 65 rfl w.heap.size 66 1 24 sliceS _ _ _ hown3.out rfl (wr.heap.size + 1 + 1) #[.slice (some ⟨wr.heap.size + 1, 0, none⟩) 1 1] rfl HNEW3.out rfl (by simp [Value.oneCell']) (by omega) (by omega) (by simp; omega) ?_; intro v4 w4 hown4 ht4 hat4 _)
        go_roundw
        case rel =>
          refine ⟨k + 1, by omega, by go_num, ?_⟩
          rw [HST.out, show ostep st ⟨1, m⟩ = st ++ [[⟨1, 0⟩]] by simp [ostep]]
          obtain ⟨A9, c9, he9, hs9, hA9, _⟩ := form_one (w := wr.alloc (.cells #[.int .i64 1, .int .i64 m] 42)) (wk := wr.alloc (.cells #[.int .i64 1, .int .i64 m] 42)) (r := [⟨1, 0⟩]) (op := 1) rfl (Below.refl _ _)
          cases he9
          exact orel_push (n := 1) hS hbr hbn rfl (by simpa using hs9) (by simpa using hA9) (by simpa using hown4) (by simpa using ht4)
        case measure => simp [intOf]; omega
      · obtain ⟨Av, cv, rfl, hsv⟩ := own_sl hS.1
        have hs1 := hS.below hbx
        have hbn : Below wr.heap.size wr ((wr.alloc (.cells #[.int .i64 2, .int .i64 m] 42)).alloc (.cells #[.int .i64 2, .int .i64 0] 42)) := hbx.alloc (by simp) _
        have hs2 := hS.below hbn
        have hs3 := own_below hs2.1 ((Below.refl _ _).alloc (Nat.le_refl _) (.cells #[.slice (some ⟨wr.heap.size + 1, 0, none⟩) 1 1] 66))
        have hown3 := Lib.hid hs3
        have hnew : ((wr.alloc (.cells #[.int .i64 2, .int .i64 m] 42)).alloc (.cells #[.int .i64 2, .int .i64 0] 42)).heap.size = wr.heap.size + 1 + 1 := by rw [World.size_alloc, World.size_alloc]
        have hnew3 := heap_alloc_new ((wr.alloc (.cells #[.int .i64 2, .int .i64 m] 42)).alloc (.cells #[.int .i64 2, .int .i64 0] 42)) (.cells #[.slice (some ⟨wr.heap.size + 1, 0, none⟩) 1 1] 66)
        rw [hnew] at hnew3
        have HNEW3 := Lib.hid hnew3
        clear hs1 hs2 hs3 hnew hnew3
        go_wp2_with (at_builtin; refine wpList_push rfl (.tmp 42) (.tmp 47) 65 rfl w.heap.size 66 1 24 sliceS _ _ _ hown3.out rfl (wr.heap.size + 1 + 1) #[.slice (some ⟨wr.heap.size + 1, 0, none⟩) 1 1] rfl HNEW3.out rfl (by simp [Value.oneCell']) (by omega) (by omega) (by simp; omega) ?_; intro v4 w4 hown4 ht4 hat4 _)
        go_roundw
        case rel =>
          refine ⟨k + 1, by omega, by go_num, ?_⟩
          rw [HST.out, show ostep st ⟨2, m⟩ = st ++ [[⟨2, 0⟩]] by simp [ostep]]
          obtain ⟨A9, c9, he9, hs9, hA9, _⟩ := form_one (w := wr.alloc (.cells #[.int .i64 2, .int .i64 m] 42)) (wk := wr.alloc (.cells #[.int .i64 2, .int .i64 m] 42)) (r := [⟨2, 0⟩]) (op := 2) rfl (Below.refl _ _)
          cases he9
          exact orel_push (n := 1) hS hbr hbn rfl (by simpa using hs9) (by simpa using hA9) (by simpa using hown4) (by simpa using ht4)
        case measure => simp [intOf]; omega
      · obtain ⟨Av, cv, rfl, hsv⟩ := own_sl hS.1
        have hs1 := hS.below hbx
        have hbn : Below wr.heap.size wr ((wr.alloc (.cells #[.int .i64 3, .int .i64 m] 42)).alloc (.cells #[.int .i64 3, .int .i64 m] 42)) := hbx.alloc (by simp) _
        have hs2 := hS.below hbn
        have hs3 := own_below hs2.1 ((Below.refl _ _).alloc (Nat.le_refl _) (.cells #[.slice (some ⟨wr.heap.size + 1, 0, none⟩) 1 1] 66))
        have hown3 := Lib.hid hs3
        have hnew : ((wr.alloc (.cells #[.int .i64 3, .int .i64 m] 42)).alloc (.cells #[.int .i64 3, .int .i64 m] 42)).heap.size = wr.heap.size + 1 + 1 := by rw [World.size_alloc, World.size_alloc]
        have hnew3 := heap_alloc_new ((wr.alloc (.cells #[.int .i64 3, .int .i64 m] 42)).alloc (.cells #[.int .i64 3, .int .i64 m] 42)) (.cells #[.slice (some ⟨wr.heap.size + 1, 0, none⟩) 1 1] 66)
        rw [hnew] at hnew3
        have HNEW3 := Lib.hid hnew3
        clear hs1 hs2 hs3 hnew hnew3
        go_wp2_with (at_builtin; refine wpList_push rfl (.tmp 51) (.tmp 54) 65 rfl w.heap.size 66 1 24 sliceS _ _ _ hown3.out rfl (wr.heap.size + 1 + 1) #[.slice (some ⟨wr.heap.size + 1, 0, none⟩) 1 1] rfl HNEW3.out rfl (by simp [Value.oneCell']) (by omega) (by omega) (by simp; omega) ?_; intro v4 w4 hown4 ht4 hat4 _)
        go_roundw
        case rel =>
          refine ⟨k + 1, by omega, by go_num, ?_⟩
          rw [HST.out, show ostep st ⟨3, m⟩ = st ++ [[⟨3, m⟩]] by simp [ostep]]
          have hs9 : Sl ((wr.alloc (.cells #[.int .i64 3, .int .i64 m] 42)).alloc (.cells #[.int .i64 3, .int .i64 m] 42)) ((wr.alloc (.cells #[.int .i64 3, .int .i64 m] 42)).alloc (.cells #[.int .i64 3, .int .i64 m] 42)).heap.size 2 (some ⟨wr.heap.size + 1, 0, none⟩) 1 1 (ncells [⟨3, m⟩]) := by
            refine ⟨rfl, Nat.le_refl _, by unfold maxLen; simp, by simp, .inr ⟨wr.heap.size + 1, 0, rfl, by simp, fun j u hu => ?_⟩⟩
            have hnew := heap_alloc_new (wr.alloc (.cells #[.int .i64 3, .int .i64 m] 42)) (.cells #[.int .i64 3, .int .i64 m] 42)
            rw [show (wr.alloc (.cells #[.int .i64 3, .int .i64 m] 42)).heap.size = wr.heap.size + 1 by simp] at hnew
            rw [cell_of_row _ _ _ _ _ (0, 0) hnew, Nat.zero_add]
            simpa [ncells] using hu
          have hA9 : Nb ((wr.alloc (.cells #[.int .i64 3, .int .i64 m] 42)).alloc (.cells #[.int .i64 3, .int .i64 m] 42)) (some ⟨wr.heap.size + 1, 0, none⟩) := fun a ha => by
            cases ha
            have hnew := heap_alloc_new (wr.alloc (.cells #[.int .i64 3, .int .i64 m] 42)) (.cells #[.int .i64 3, .int .i64 m] 42)
            rw [show (wr.alloc (.cells #[.int .i64 3, .int .i64 m] 42)).heap.size = wr.heap.size + 1 by simp] at hnew
            exact ⟨_, hnew⟩
          exact orel_push (n := 1) hS hbr hbn rfl hs9 hA9 (by simpa using hown4) (by simpa using ht4)
        case measure => simp [intOf]; omega
      · obtain ⟨g, cap, rfl, hgB, hgl, hcap, hmx⟩ := hS.form (by omega)
        have hj : st.length - 1 < st.length := by omega
        obtain ⟨A1, c1, hcs, hs1, hA1⟩ := hS.at_ hj
        obtain ⟨t, hfine, hrt, hrl⟩ := HOK.out.tree _ (List.getElem_mem hj)
        have hrp : 0 < st[st.length - 1].length := by rw [hrt]; exact fine_len
        have hos : ostep st ⟨4, m⟩ = st.set (st.length - 1) (withL 4 st[st.length - 1]) := by simp [ostep, List.getD, hj]
        clear hrt hfine
        generalize st[st.length - 1] = r at *
        have hmx' : cap ≤ 9223372036854775807 := by unfold maxLen at hmx; omega
        have hd1 : (1 : Int) ≤ (st.length : Int) := by omega
        have HOS := Lib.hid hos
        clear hos
        have hb3 : Below wr.heap.size wr ((wr.alloc (.cells #[.int .i64 4, .int .i64 m] 42)).alloc (.cells #[.slice A1 r.length c1] 66)) := hbx.alloc (by simp) _
        have hnew := heap_alloc_new (wr.alloc (.cells #[.int .i64 4, .int .i64 m] 42)) (.cells #[.slice A1 r.length c1] 66)
        rw [World.size_alloc] at hnew
        have hW := with_any _ 1 1 [r] 4 ((wr.alloc (.cells #[.int .i64 4, .int .i64 m] 42)).alloc (.cells #[.slice A1 r.length c1] 66)) (wr.heap.size + 1 + 1) (sl2_one hnew (Nat.lt_succ_self _) ((hs1.below hb3 (Nat.le_refl _)).up (by omega))) (by simp) (by simp [totF]; omega)
        rw [show [r].flatten = r by simp] at hW
        have HW := Lib.hid hW
        clear hW hnew
        go_wp2_with fail
        refine Calls.mono HW.out ?_
        rintro e w5 ⟨A5, c5, rfl, hs5, hA5, hb5⟩
        have hbr5 : Below wr.heap.size wr w5 := hb3.trans (hb5.mono (by simp <;> omega))
        have hS5 := hS.below hbr5
        have hc5 := (hbr5.cell (p := ⟨g, st.length - 1, none⟩) hgl).trans hcs
        have hf5 := hS5.1.frozenAt (st.length - 1)
        have hrel5 := Lib.hid (orel_set (j := st.length - 1) hS hbr hbr5 hs5 hA5)
        clear hS5
        go_wp2
        go_roundw
        case rel =>
          refine ⟨k + 1, by omega, by go_num, ?_⟩
          rw [HST.out, HOS.out]
          exact hrel5.out
        case measure => simp [intOf]; omega
      · obtain ⟨g, cap, rfl, hgB, hgl, hcap, hmx⟩ := hS.form (by omega)
        have hj : st.length - 1 < st.length := by omega
        obtain ⟨A1, c1, hcs, hs1, hA1⟩ := hS.at_ hj
        obtain ⟨t, hfine, hrt, hrl⟩ := HOK.out.tree _ (List.getElem_mem hj)
        have hrp : 0 < st[st.length - 1].length := by rw [hrt]; exact fine_len
        have hos : ostep st ⟨8, m⟩ = st.set (st.length - 1) (nextL st[st.length - 1]) := by simp [ostep, List.getD, hj]
        clear hrt hfine
        generalize st[st.length - 1] = r at *
        have hmx' : cap ≤ 9223372036854775807 := by unfold maxLen at hmx; omega
        have hd1 : (1 : Int) ≤ (st.length : Int) := by omega
        have HOS := Lib.hid hos
        clear hos
        have hb3 := hbx
        have hW := snext_any A1 r.length c1 r (wr.alloc (.cells #[.int .i64 8, .int .i64 m] 42)) wr.heap.size (hs1.below hbx (Nat.le_refl _)) (hA1.below hbx) rfl hrp (by simp) (by omega)
        have HW := Lib.hid hW
        clear hW
        go_wp2_with fail
        refine Calls.mono HW.out ?_
        rintro e w5 ⟨A5, c5, rfl, hs5, hA5, hb5⟩
        have hbr5 : Below wr.heap.size wr w5 := hb3.trans (hb5.mono (by simp <;> omega))
        have hS5 := hS.below hbr5
        have hc5 := (hbr5.cell (p := ⟨g, st.length - 1, none⟩) hgl).trans hcs
        have hf5 := hS5.1.frozenAt (st.length - 1)
        have hrel5 := Lib.hid (orel_set (j := st.length - 1) hS hbr hbr5 hs5 hA5)
        clear hS5
        go_wp2
        go_roundw
        case rel =>
          refine ⟨k + 1, by omega, by go_num, ?_⟩
          rw [HST.out, HOS.out]
          exact hrel5.out
        case measure => simp [intOf]; omega
      · obtain ⟨g, cap, rfl, hgB, hgl, hcap, hmx⟩ := hS.form (by omega)
        have hj1 : st.length - 1 < st.length := by omega
        have hj2 : st.length - 2 < st.length := by omega
        obtain ⟨A1, c1, hcs1, hs1, hA1⟩ := hS.at_ hj1
        obtain ⟨A2, c2, hcs2, hs2, hA2⟩ := hS.at_ hj2
        obtain ⟨t1, hf1, hrt1, hrl1⟩ := HOK.out.tree _ (List.getElem_mem hj1)
        obtain ⟨t2, hf2, hrt2, hrl2⟩ := HOK.out.tree _ (List.getElem_mem hj2)
        have hrp1 : 0 < st[st.length - 1].length := by rw [hrt1]; exact fine_len
        have hrp2 : 0 < st[st.length - 2].length := by rw [hrt2]; exact fine_len
        have hk1 : KOk st[st.length - 1].length (kids st[st.length - 1] ((st[st.length - 1].length : Int) - 1)) := by rw [hrt1]; exact kids_kok hf1.1
        have hk2 : KOk st[st.length - 2].length (kids st[st.length - 2] ((st[st.length - 2].length : Int) - 1)) := by rw [hrt2]; exact kids_kok hf2.1
        have hos : ostep st ⟨op, m⟩ = st.take (st.length - 2) ++ [twoL op st[st.length - 2] st[st.length - 1]] := by
          have h1 : op ≠ 1 ∧ op ≠ 2 ∧ op ≠ 3 ∧ op ≠ 4 ∧ op ≠ 8 := by omega
          simp [ostep, List.getD, hj1, hj2, h1]
        clear hrt1 hrt2 hf1 hf2
        generalize st[st.length - 1] = r1 at *
        generalize st[st.length - 2] = r2 at *
        have hmx' : cap ≤ 9223372036854775807 := by unfold maxLen at hmx; omega
        have hlt := orel_two_cut hS (show st.length - 2 ≤ st.length by omega)
        obtain ⟨d2, hd2⟩ : ∃ d, d = st.length - 2 := ⟨_, rfl⟩
        obtain ⟨d1, hd1⟩ : ∃ d, d = st.length - 1 := ⟨_, rfl⟩
        have e1 : IntKind.i64.wrap ((st.length : Int) - 2) = (d2 : Int) := by rw [IntWalk.i64_in _ (by omega)]; omega
        have e2 : IntKind.i64.wrap ((st.length : Int) - 1) = (d1 : Int) := by rw [IntWalk.i64_in _ (by omega)]; omega
        have i1 : (d2 : Int) < (st.length : Int) := by omega
        have i2 : (d1 : Int) < (st.length : Int) := by omega
        have i3 : (d2 : Int) ≤ (cap : Int) := by omega
        rw [← hd2] at hcs2 hlt hos
        rw [← hd1] at hcs1
        have HOS := Lib.hid hos
        have HE1 := Lib.hid e1
        have HE2 := Lib.hid e2
        have hd2l : d2 ≤ 10000 := by omega
        clear hos e1 e2 hd1 hd2
        have hbxd : Below wr.heap.size wr (wr.alloc (.cells #[.int .i64 op, .int .i64 m] 42)).drew := hbx.drew
        have hx1 := (hbx.cell (p := ⟨g, d1, none⟩) hgl).trans hcs1
        have hx2 := (hbx.cell (p := ⟨g, d2, none⟩) hgl).trans hcs2
        have hx3 : (wr.alloc (.cells #[.int .i64 op, .int .i64 m] 42)).cell? ⟨wr.heap.size, 0, none⟩ = some (.int .i64 op) := by rw [cell_of_row _ _ _ _ _ (0, 0) (heap_alloc_new wr _)]; rfl
        have hT := hid_two op A2 r2.length c2 A1 r1.length c1 r2 r1 ((wr.alloc (.cells #[.int .i64 op, .int .i64 m] 42)).drew) wr.heap.size wr.heap.size (hs2.below hbxd (Nat.le_refl _)) (hs1.below hbxd (Nat.le_refl _)) (hA2.below hbxd) (hA1.below hbxd) rfl rfl hrp2 hrp1 (by simp) (by simp) (by omega) hk2 hk1 h4
        have HT := Lib.hid hT
        have HS0 := Lib.hid hS
        have hneq : op ≠ 1 ∧ op ≠ 2 ∧ op ≠ 3 ∧ op ≠ 4 ∧ op ≠ 8 := by omega
        obtain ⟨n1, n2, n3, n4, n8⟩ := hneq
        have q1 : (op == 1) = false := by simpa using n1
        have q2 : (op == 2) = false := by simpa using n2
        have q3 : (op == 3) = false := by simpa using n3
        have q4 : (op == 4) = false := by simpa using n4
        have q8 : (op == 8) = false := by simpa using n8
        clear hT hk1 hk2 hA1 hA2 hs1 hs2 n1 n2 n3 n4 n8 h4 hcs1 hcs2 hS
        go_wp2_with fail
        have e1 := HE1.out
        have e2 := HE2.out
        refine wp_region_U (S := fun w' => w'.cell? ⟨g, d1, none⟩ = some (.slice A1 r1.length c1) ∧ w'.cell? ⟨g, d2, none⟩ = some (.slice A2 r2.length c2) ∧ w'.cell? ⟨wr.heap.size, 0, none⟩ = some (.int .i64 op)) 18 (by kernel_rfl) ⟨hx1, hx2, hx3⟩ (fun hS => ?_)
        refine wpAnyU_takeD (i := 0) (v := ?_) rfl (by kernel_rfl) (by kernel_rfl) (by kernel_rfl) [3] (by kernel_rfl) (by kernel_rfl) (fun _ _ _ h => h) (Or.inl ⟨by kernel_rfl, ?_⟩) hS ?_
        rotate_left 1
        · (intro w' hSw; (try dsimp only at hSw); go_simp; try (with_reducible rfl))
        try simp only [Act.put, List.setIfInBounds_toArray, List.set_cons_zero, List.set_cons_succ]
        refine wpAnyU_takeD (i := 1) (v := ?_) rfl (by kernel_rfl) (by kernel_rfl) (by kernel_rfl) [3, 2] (by kernel_rfl) (by kernel_rfl) (fun _ _ _ h => h) (Or.inl ⟨by kernel_rfl, ?_⟩) hS ?_
        rotate_left 1
        · (intro w' hSw; (try dsimp only at hSw); go_simp; try (with_reducible rfl))
        try simp only [Act.put, List.setIfInBounds_toArray, List.set_cons_zero, List.set_cons_succ]
        refine wpAnyU_takeD (i := 2) (v := ?_) rfl (by kernel_rfl) (by kernel_rfl) (by kernel_rfl) [3] (by kernel_rfl) (by kernel_rfl) (fun _ _ _ h => h) (Or.inl ⟨by kernel_rfl, ?_⟩) hS ?_
        rotate_left 1
        · (intro w' hSw; (try dsimp only at hSw); go_simp; try (with_reducible rfl))
        try simp only [Act.put, List.setIfInBounds_toArray, List.set_cons_zero, List.set_cons_succ]
        refine wpAnyU_takeD (i := 3) (v := ?_) rfl (by kernel_rfl) (by kernel_rfl) (by kernel_rfl) [] (by kernel_rfl) (by kernel_rfl) (fun _ _ _ h => h) (Or.inl ⟨by kernel_rfl, ?_⟩) hS ?_
        rotate_left 1
        · (intro w' hSw; (try dsimp only at hSw); go_simp; try (with_reducible rfl))
        try simp only [Act.put, List.setIfInBounds_toArray, List.set_cons_zero, List.set_cons_succ]
        refine wpAnyU_takeD (i := 4) (v := ?_) rfl (by kernel_rfl) (by kernel_rfl) (by kernel_rfl) [17, 16, 5] (by kernel_rfl) (by kernel_rfl) (fun _ _ _ h => h) (Or.inl ⟨by kernel_rfl, ?_⟩) hS ?_
        rotate_left 1
        · (intro w' hSw; (try dsimp only at hSw); go_simp; try (with_reducible rfl))
        try simp only [Act.put, List.setIfInBounds_toArray, List.set_cons_zero, List.set_cons_succ]
        refine wpAnyU_takeD (i := 5) (v := ?_) rfl (by kernel_rfl) (by kernel_rfl) (by kernel_rfl) [17, 16] (by kernel_rfl) (by kernel_rfl) (fun _ _ _ h => h) (Or.inl ⟨by kernel_rfl, ?_⟩) hS ?_
        rotate_left 1
        · (intro w' hSw; (try dsimp only at hSw); go_simp; try (with_reducible rfl))
        try simp only [Act.put, List.setIfInBounds_toArray, List.set_cons_zero, List.set_cons_succ]
        refine wpAnyU_takeD (i := 6) (v := ?_) rfl (by kernel_rfl) (by kernel_rfl) (by kernel_rfl) [17, 16, 10, 9] (by kernel_rfl) (by kernel_rfl) (fun _ _ _ h => h) (Or.inl ⟨by kernel_rfl, ?_⟩) hS ?_
        rotate_left 1
        · (intro w' hSw; (try dsimp only at hSw); go_simp; try (with_reducible rfl))
        try simp only [Act.put, List.setIfInBounds_toArray, List.set_cons_zero, List.set_cons_succ]
        refine wpAnyU_takeD (i := 7) (v := ?_) rfl (by kernel_rfl) (by kernel_rfl) (by kernel_rfl) [17, 16, 10, 9, 8] (by kernel_rfl) (by kernel_rfl) (fun _ _ _ h => h) (Or.inl ⟨by kernel_rfl, ?_⟩) hS ?_
        rotate_left 1
        · (intro w' hSw; (try dsimp only at hSw); go_simp; try (with_reducible rfl))
        try simp only [Act.put, List.setIfInBounds_toArray, List.set_cons_zero, List.set_cons_succ]
        refine wpAnyU_takeD (i := 8) (v := ?_) rfl (by kernel_rfl) (by kernel_rfl) (by kernel_rfl) [17, 16, 10, 9] (by kernel_rfl) (by kernel_rfl) (fun _ _ _ h => h) (Or.inl ⟨by kernel_rfl, ?_⟩) hS ?_
        rotate_left 1
        · (intro w' hSw; (try dsimp only at hSw); go_simp; try (with_reducible rfl))
        try simp only [Act.put, List.setIfInBounds_toArray, List.set_cons_zero, List.set_cons_succ]
        refine wpAnyU_takeD (i := 9) (v := ?_) rfl (by kernel_rfl) (by kernel_rfl) (by kernel_rfl) [17, 16, 10] (by kernel_rfl) (by kernel_rfl) (fun _ _ _ h => h) (Or.inl ⟨by kernel_rfl, ?_⟩) hS ?_
        rotate_left 1
        · (intro w' hSw; (try dsimp only at hSw); go_simp; try (with_reducible rfl))
        try simp only [Act.put, List.setIfInBounds_toArray, List.set_cons_zero, List.set_cons_succ]
        refine wpAnyU_takeD (i := 10) (v := ?_) rfl (by kernel_rfl) (by kernel_rfl) (by kernel_rfl) [17, 16] (by kernel_rfl) (by kernel_rfl) (fun _ _ _ h => h) (Or.inl ⟨by kernel_rfl, ?_⟩) hS ?_
        rotate_left 1
        · (intro w' hSw; (try dsimp only at hSw); go_simp; try (with_reducible rfl))
        try simp only [Act.put, List.setIfInBounds_toArray, List.set_cons_zero, List.set_cons_succ]
        refine wpAnyU_takeD (i := 11) (v := ?_) rfl (by kernel_rfl) (by kernel_rfl) (by kernel_rfl) [17, 16, 15, 14] (by kernel_rfl) (by kernel_rfl) (fun _ _ _ h => h) (Or.inl ⟨by kernel_rfl, ?_⟩) hS ?_
        rotate_left 1
        · (intro w' hSw; (try dsimp only at hSw); go_simp; try (with_reducible rfl))
        try simp only [Act.put, List.setIfInBounds_toArray, List.set_cons_zero, List.set_cons_succ]
        refine wpAnyU_takeD (i := 12) (v := ?_) rfl (by kernel_rfl) (by kernel_rfl) (by kernel_rfl) [17, 16, 15, 14, 13] (by kernel_rfl) (by kernel_rfl) (fun _ _ _ h => h) (Or.inl ⟨by kernel_rfl, ?_⟩) hS ?_
        rotate_left 1
        · (intro w' hSw; (try dsimp only at hSw); go_simp; try (with_reducible rfl))
        try simp only [Act.put, List.setIfInBounds_toArray, List.set_cons_zero, List.set_cons_succ]
        refine wpAnyU_takeD (i := 13) (v := ?_) rfl (by kernel_rfl) (by kernel_rfl) (by kernel_rfl) [17, 16, 15, 14] (by kernel_rfl) (by kernel_rfl) (fun _ _ _ h => h) (Or.inl ⟨by kernel_rfl, ?_⟩) hS ?_
        rotate_left 1
        · (intro w' hSw; (try dsimp only at hSw); go_simp; try (with_reducible rfl))
        try simp only [Act.put, List.setIfInBounds_toArray, List.set_cons_zero, List.set_cons_succ]
        refine wpAnyU_takeD (i := 14) (v := ?_) rfl (by kernel_rfl) (by kernel_rfl) (by kernel_rfl) [17, 16, 15] (by kernel_rfl) (by kernel_rfl) (fun _ _ _ h => h) (Or.inl ⟨by kernel_rfl, ?_⟩) hS ?_
        rotate_left 1
        · (intro w' hSw; (try dsimp only at hSw); go_simp; try (with_reducible rfl))
        try simp only [Act.put, List.setIfInBounds_toArray, List.set_cons_zero, List.set_cons_succ]
        refine wpAnyU_takeD (i := 15) (v := ?_) rfl (by kernel_rfl) (by kernel_rfl) (by kernel_rfl) [17, 16] (by kernel_rfl) (by kernel_rfl) (fun _ _ _ h => h) (Or.inl ⟨by kernel_rfl, ?_⟩) hS ?_
        rotate_left 1
        · (intro w' hSw; (try dsimp only at hSw); go_simp; try (with_reducible rfl))
        try simp only [Act.put, List.setIfInBounds_toArray, List.set_cons_zero, List.set_cons_succ]
        refine wpAnyU_oneD (i := 16) rfl (by kernel_rfl) (fun K hK => ?_)
        go_simp
        refine Calls.mono HT.out ?_
        rintro e w5 ⟨A5, c5, rfl, hs5, hA5, hb5⟩
        have hbr5 : Below wr.heap.size wr w5 := hbxd.trans (hb5.mono (by simp))
        have hy1 := (hbr5.cell (p := ⟨g, d1, none⟩) hgl).trans ((hbx.cell (p := ⟨g, d1, none⟩) hgl).symm.trans hx1)
        have hy2 := (hbr5.cell (p := ⟨g, d2, none⟩) hgl).trans ((hbx.cell (p := ⟨g, d2, none⟩) hgl).symm.trans hx2)
        have hy3 := (hb5.cell (p := ⟨wr.heap.size, 0, none⟩) (by simp)).trans hx3
        refine hK.out _ _ ⟨hy1, hy2, hy3⟩ (fun hS => ?_)
        clear hK
        try simp only [Act.put, List.setIfInBounds_toArray, List.set_cons_zero, List.set_cons_succ]
        have hz5 : wr.heap.size < w5.heap.size := by have := hb5.size; simp at this; omega
        generalize hR5 : twoL op r2 r1 = r5 at *
        have HR5 := Lib.hid hR5
        clear hR5
        have hw1 : (w5.alloc (.cells #[.slice A5 r5.length c5] 66)).cell? ⟨g, d1, none⟩ = _ := (((Below.refl w5.heap.size w5).alloc (Nat.le_refl _) (.cells #[.slice A5 r5.length c5] 66)).cell (p := ⟨g, d1, none⟩) (show g < w5.heap.size by omega)).trans hy1
        have hw2 : (w5.alloc (.cells #[.slice A5 r5.length c5] 66)).cell? ⟨g, d2, none⟩ = _ := (((Below.refl w5.heap.size w5).alloc (Nat.le_refl _) (.cells #[.slice A5 r5.length c5] 66)).cell (p := ⟨g, d2, none⟩) (show g < w5.heap.size by omega)).trans hy2
        have hw3 : (w5.alloc (.cells #[.slice A5 r5.length c5] 66)).cell? ⟨wr.heap.size, 0, none⟩ = _ := (((Below.refl w5.heap.size w5).alloc (Nat.le_refl _) (.cells #[.slice A5 r5.length c5] 66)).cell (p := ⟨wr.heap.size, 0, none⟩) hz5).trans hy3
        refine wpAnyU_oneD (i := 17) rfl (by kernel_rfl) (fun K hK => ?_)
        go_simp
        refine hK.out _ _ ⟨hw1, hw2, hw3⟩ (fun hS => ?_)
        clear hK
        try simp only [Act.put, List.setIfInBounds_toArray, List.set_cons_zero, List.set_cons_succ]
        have hS6 := hlt.below hbr5
        refine wpAnyU_lastD (i := 18) rfl (by kernel_rfl) (by kernel_rfl) (fun K hK => ?_)
        refine step_push rfl (.tmp 23) (.tmp 37) 65 rfl w.heap.size 66 1 24 sliceS _ d2 _ (hS6.out.2.alloc _) (by rfl) w5.heap.size #[.slice A5 r5.length c5] (by rfl) (heap_alloc_new w5 _) rfl (by simp [Value.oneCell']) (by omega) (by omega) (by simp; omega) ?_
        intro v6 w6 hown6 ht6 hat6 _
        refine hK.out _ _ ?_
        clear hK
        try simp only [Act.put, List.setIfInBounds_toArray, List.set_cons_zero, List.set_cons_succ]
        refine wpAnyU_lastD (i := 19) rfl (by kernel_rfl) (by kernel_rfl) (fun K hK => ?_)
        go_simp
        refine hK.out _ _ ?_
        clear hK
        try simp only [Act.put, List.setIfInBounds_toArray, List.set_cons_zero, List.set_cons_succ]
        refine wpAnyU_done (by kernel_rfl) ?_
        clear e1 e2
        have hfin := Lib.hid (orel_push (st := st.take d2) hS6.out.1 (w := w) hbr hbr5 rfl hs5 hA5 (by rw [hlt.len]; exact hown6) ht6)
        go_wp2
        go_roundw
        case rel =>
          refine ⟨k + 1, by omega, by go_num, ?_⟩
          rw [HST.out, HOS.out]
          exact hfin.out
        case measure => simp [intOf]; omega
    · have hkl : k = f.length := by omega
      subst hkl
      rw [stkL_end HN.out] at hrel
      obtain ⟨vs, hS, hbr⟩ := hrel
      obtain ⟨g, cap, rfl, _⟩ := hS.form (by simp)
      obtain ⟨A1, c1, hc1, hs1, _⟩ := hS.at_ (j := 0) (by simp)
      simp only [List.getElem_cons_zero] at hc1 hs1
      have hlen : (onceL f).length ≤ 10000 := by
        have := HOK.out.tree (onceL f) (by rw [stkL_end HN.out]; simp)
        obtain ⟨_, _, _, h⟩ := this
        omega
      have hcl := cloneF_any A1 _ c1 (ncells (onceL f)) wr wr.heap.size hs1 (ncells_one _) (Nat.le_refl _) (by omega)
      have hne : onceL f ≠ [] := by
        obtain ⟨t, _, h, _⟩ := HOK.out.tree (onceL f) (by rw [stkL_end HN.out]; simp)
        rw [h]
        have := @fine_len t
        intro e; rw [e] at this; simp at this
      have hpos : 0 < (onceL f).length := List.length_pos_iff.2 hne
      have hA1 : A1 ≠ none := fun h => by have h1 := hs1.nil h; have := hs1.cap; omega
      have HCL := Lib.hid hcl
      have HNE := Lib.hid hne
      clear hcl hne
      go_wp2_with fail
      refine Calls.mono HCL.out ?_
      rintro e w2 ⟨v2, rfl, hown2, hb2, hn2⟩
      have HN2 := Lib.hid hn2
      clear hn2
      have hzr := hbr.size
      go_wp2
      go_ret
      exact ⟨v2, rfl, own_base hown2 hzr, hbr.trans (hb2.mono hzr), by rw [HN2.out]; simp [hA1, HNE.out]⟩
end Go.Proofs.Ytkikkplpalabhaa
