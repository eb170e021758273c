/- Texts of one kind, in one file. -/
import Derived.Test.YtamhjgkigjpbhaaDoorCv9
import Derived.Test.YtamhjgkigjpbhaaDoorEqI28
import Derived.Test.YtamhjgkigjpbhaaDoorMk
import Derived.BigQuiet
import Derived.Deep.Cut
import Derived.Deep.DeepCutAuto
import Derived.Test.YtamhjgkigjpbhaaDoorCvN

/- (XCr1) The walks of layer 28's reference: in, put, ahead. -/
namespace Go.Proofs.YtamhjgkigjpbhaaDoor
open Go.RowKit

theorem any_flip (l : List Int) (z : Int) : l.any (· == z) = l.any (z == ·) := by
  rw [Bool.eq_iff_iff]; simp only [List.any_eq_true, beq_iff_eq]
  exact ⟨fun ⟨x, h, e⟩ => ⟨x, h, e.symm⟩, fun ⟨x, h, e⟩ => ⟨x, h, e.symm⟩⟩
set_option maxHeartbeats 1000000 in
theorem inR_any (A : Option Addr) (n c : Nat) (l : List Int) (z : Int) (w : World) (B : Nat) (hn : n = l.length) (hs : Sl w B 1 A n c (icells l)) (hB : B ≤ w.heap.size) (hl : n ≤ 100000000000) :
    Calls Tryd.prog 40 #[.slice A n c, .int .i64 z] w (Tru w (l.any (z == ·))) := by
  rw [← any_flip]
  subst hn
  go_enter Tryd.func40, Tryd.ntmps40
  go_wp2
  go_loopw [5] (fun i wr => ∃ k : Nat, k ≤ l.length ∧ i = .int .i64 k ∧ Below w.heap.size w wr ∧ Hid ((l.take k).any (· == z) = false)) (fun i _ => l.length - (intOf i).toNat)
  case atStart => exact ⟨0, by omega, rfl, Below.refl _ _, rfl⟩
  case round =>
    obtain ⟨k, hk, rfl, hbr, HA⟩ := hrel
    have hsw := hbr.size
    by_cases hlt : k < l.length
    · obtain ⟨bb, o, rfl, _, hc0⟩ := (hs.rd.below hbr hB).at_ (icells_at' hlt)
      have hsn : (l.take (k + 1)).any (· == z) = (l[k] == z) := by rw [take_snoc l k hlt, List.any_append, HA.out]; simp
      have hyes : (l[k] == z) = true → l.any (· == z) = true := fun h => List.any_eq_true.2 ⟨l[k], List.getElem_mem hlt, h⟩
      generalize l[k] = x at *
      have HS := Lib.hid hsn
      have HY := Lib.hid hyes
      clear hsn hyes
      cases hb : (x == z)
      · have HB := Lib.hid hb
        go_wp2
        go_roundw
        case rel => exact ⟨k + 1, by omega, by go_num, hbr, by show _ = _; rw [HS.out]; exact HB.out⟩
        case measure => simp [intOf]; omega
      · have HB := Lib.hid hb
        go_wp2
        go_ret
        exact ⟨by rw [HY.out HB.out]; rfl, hbr⟩
    · have hkl : k = l.length := by omega
      subst hkl
      rw [List.take_of_length_le (Nat.le_refl _)] at HA
      go_wp2
      go_ret
      exact ⟨by rw [HA.out]; rfl, hbr⟩

def OwnI (w : World) (l : List Nat) (en : Ending) (w' : World) : Prop := ∃ v, en = .returned v ∧ w'.ownsRow w.heap.size 3 1 v l.length (icells (natI l)) ∧ Below w.heap.size w w'
theorem natI_any (l : List Nat) (i : Nat) : (natI l).any ((i : Int) == ·) = decide (i ∈ l) := by
  rw [Bool.eq_iff_iff]; simp only [natI, List.any_map, List.any_eq_true, Function.comp_apply, beq_iff_eq, decide_eq_true_eq]
  exact ⟨fun ⟨x, h, e⟩ => by rw [show i = x by omega]; exact h, fun h => ⟨i, h, rfl⟩⟩
theorem cfold_snoc {n : Nat} {l : List Nat} {k : Nat} (hk : k < l.length) (s : List Nat × Bool) : cfold n (l.take (k + 1)) s = cstep n (cfold n (l.take k) s) l[k] := by
  unfold cfold; rw [take_snoc l k hk, List.foldl_append]; rfl
theorem cfold_len (n : Nat) : ∀ (l : List Nat) (s : List Nat × Bool), (cfold n l s).1.length ≤ s.1.length + 2 * l.length
  | [], s => by simp [cfold]
  | x :: l, s => by
    have h := cfold_len n l (cstep n s x)
    have : (cstep n s x).1.length ≤ s.1.length + 2 := by unfold cstep; split <;> simp
    show (cfold n l (cstep n s x)).1.length ≤ _
    simp only [List.length_cons]; omega
set_option maxHeartbeats 4000000 in
set_option maxRecDepth 100000 in
theorem putR_any (A : Option Addr) (m c : Nat) (l : List Nat) (n : Nat) (w : World) (B : Nat) (hm : m = l.length) (hs : Sl w B 1 A m c (icells (natI l))) (hB : B ≤ w.heap.size) (hl : m ≤ 1000000) :
    Calls Tryd.prog 62 #[.slice A m c, .int .i64 (n : Int)] w (OwnI w (putF l n)) := by
  subst hm
  have HP : Hid (putF l n = if (cfold n l ([], decide (n ∈ l))).2 = true then (cfold n l ([], decide (n ∈ l))).1 else (cfold n l ([], decide (n ∈ l))).1 ++ [n]) := Lib.hid rfl
  have HI := Lib.hid (inR_any A l.length c (natI l) n w B (by simp [natI]) hs hB (by omega))
  rw [natI_any] at HI
  generalize decide (n ∈ l) = d0 at *
  go_enter Tryd.func62, Tryd.ntmps62
  go_wp2_with fail
  refine Calls.mono HI.out ?_
  rintro e w1 ⟨rfl, hb1⟩
  have hz1 := hb1.size
  clear HI
  go_wp2_with fail
  go_loopw [5, 6, 7] (fun u d i wr => ∃ k : Nat, k ≤ l.length ∧ i = .int .i64 k ∧ ∃ (acc : List Nat) (done : Bool), Hid (cfold n (l.take k) ([], d0) = (acc, done)) ∧ acc.length ≤ 2 * k ∧ d = .bool done ∧ wr.ownsRow w.heap.size 3 1 u acc.length (icells (natI acc)) ∧ Below w.heap.size w wr) (fun _ _ i _ => l.length - (intOf i).toNat)
  case atStart => exact ⟨0, by omega, rfl, [], d0, rfl, by simp, rfl, World.ownsRow_nil _ _ _ _, hb1⟩
  case round =>
    obtain ⟨k, hk, rfl, acc, done, HF, hal, rfl, hu, hbr⟩ := hrel
    have hsw := hbr.size
    by_cases hlt : k < l.length
    · obtain ⟨bb, o, rfl, hbb, hcw⟩ := hs.rd.at_ (icells_at' (l := natI l) (k := k) (by simp [natI]; exact hlt))
      have hsn := cfold_snoc (n := n) hlt ([], d0)
      rw [HF.out] at hsn
      rw [show (natI l)[k]'(by simp [natI]; exact hlt) = (l[k] : Int) by simp [natI]] at hcw
      generalize l[k] = x at *
      have HS := Lib.hid hsn
      have HW := Lib.hid hcw
      clear hsn
      have hc0 := (hbr.cell (p := ⟨bb, o + k, none⟩) (show bb < w.heap.size by omega)).trans hcw
      clear hcw
      by_cases hgo : done = false ∧ n < x
      · obtain ⟨rfl, hnx⟩ := hgo
        have hst : cstep n (acc, false) x = (acc ++ [n, x], true) := by simp [cstep, hnx]
        have HST := Lib.hid hst
        have dgt : decide ((n : Int) < (x : Int)) = true := by simp; omega
        clear hst
        go_wp2_with (at_builtin; first
          | (refine wpList_push rfl (.tmp 27) (.tmp 29) 25 rfl w.heap.size 3 1 8 sliceInt _ _ _ (hu.alloc _) rfl wr.heap.size #[.int .i64 n] rfl (heap_alloc_new wr _) rfl (by simp [Value.oneCell']) (by omega) (by omega) (by simp; omega) ?_
             intro v3 w3 hown3 ht3 hat3 hne3
             have hz3 := ht3.size
             simp only [World.size_alloc] at hz3
             have hb3 : Below w.heap.size w w3 := (hbr.alloc hsw _).trans (ht3.below (by simp; omega) (fun g hg h => by have := (hu.lt g h).1; omega))
             have hc3 := (hb3.cell (p := ⟨bb, o + k, none⟩) (show bb < w.heap.size by omega)).trans HW.out
             clear ht3 hc0 hat3 hne3)
          | (refine wpList_push rfl (.tmp 31) (.tmp 36) 25 rfl w.heap.size 3 1 8 sliceInt _ _ _ (hown3.alloc _) rfl w3.heap.size #[.int .i64 x] rfl (heap_alloc_new w3 _) rfl (by simp [Value.oneCell']) (by omega) (by omega) (by simp; omega) ?_
             intro v4 w4 hown4 ht4 hat4 hne4
             have hz4 := ht4.size
             simp only [World.size_alloc] at hz4))
        go_roundw
        case rel =>
          refine ⟨k + 1, by omega, by go_num, acc ++ [n, x], true, by show _ = _; rw [HS.out, HST.out], by simp; omega, rfl, ?_, ?_⟩
          · rw [show icells (natI (acc ++ [n, x])) = icells (natI acc) ++ [.int .i64 (n : Int)] ++ [.int .i64 (x : Int)] by simp [icells, natI], show (acc ++ [n, x]).length = acc.length + 1 + 1 by simp]; exact hown4
          · exact (hb3.alloc (by omega) _).trans (ht4.below (by simp; omega) (fun g hg h => by have := (hown3.lt g h).1; omega))
        case measure => simp [intOf]; omega
      · have hst : cstep n (acc, done) x = (acc ++ [x], done) := by unfold cstep; rw [if_neg hgo]
        have HST := Lib.hid hst
        clear hst
        cases done
        · have hnx : ¬ n < x := by simpa using hgo
          have dgt : decide (n < x) = false := by simpa using hnx
          clear hgo
          go_wp2_with (at_builtin
                       refine wpList_push rfl (.tmp 31) (.tmp 36) 25 rfl w.heap.size 3 1 8 sliceInt _ _ _ (hu.alloc _) rfl wr.heap.size #[.int .i64 x] rfl (heap_alloc_new wr _) rfl (by simp [Value.oneCell']) (by omega) (by omega) (by simp; omega) ?_
                       intro v4 w4 hown4 ht4 hat4 hne4
                       have hz4 := ht4.size
                       simp only [World.size_alloc] at hz4)
          go_roundw
          case rel =>
            refine ⟨k + 1, by omega, by go_num, acc ++ [x], false, by show _ = _; rw [HS.out, HST.out], by simp; omega, rfl, ?_, ?_⟩
            · rw [show icells (natI (acc ++ [x])) = icells (natI acc) ++ [.int .i64 (x : Int)] by simp [icells, natI], show (acc ++ [x]).length = acc.length + 1 by simp]; exact hown4
            · exact (hbr.alloc hsw _).trans (ht4.below (by simp; omega) (fun g hg h => by have := (hu.lt g h).1; omega))
          case measure => simp [intOf]; omega
        · clear hgo
          go_wp2_with (at_builtin
                       refine wpList_push rfl (.tmp 31) (.tmp 36) 25 rfl w.heap.size 3 1 8 sliceInt _ _ _ (hu.alloc _) rfl wr.heap.size #[.int .i64 x] rfl (heap_alloc_new wr _) rfl (by simp [Value.oneCell']) (by omega) (by omega) (by simp; omega) ?_
                       intro v4 w4 hown4 ht4 hat4 hne4
                       have hz4 := ht4.size
                       simp only [World.size_alloc] at hz4)
          go_roundw
          case rel =>
            refine ⟨k + 1, by omega, by go_num, acc ++ [x], true, by show _ = _; rw [HS.out, HST.out], by simp; omega, rfl, ?_, ?_⟩
            · rw [show icells (natI (acc ++ [x])) = icells (natI acc) ++ [.int .i64 (x : Int)] by simp [icells, natI], show (acc ++ [x]).length = acc.length + 1 by simp]; exact hown4
            · exact (hbr.alloc hsw _).trans (ht4.below (by simp; omega) (fun g hg h => by have := (hu.lt g h).1; omega))
          case measure => simp [intOf]; omega
    · have hkl : k = l.length := by omega
      subst hkl
      rw [List.take_of_length_le (Nat.le_refl _)] at HF
      cases done
      · go_wp2_with (at_builtin
                     refine wpList_push rfl (.tmp 40) (.tmp 42) 25 rfl w.heap.size 3 1 8 sliceInt _ _ _ (hu.alloc _) rfl wr.heap.size #[.int .i64 n] rfl (heap_alloc_new wr _) rfl (by simp [Value.oneCell']) (by omega) (by omega) (by simp; omega) ?_
                     intro v4 w4 hown4 ht4 hat4 hne4
                     have hz4 := ht4.size
                     simp only [World.size_alloc] at hz4)
        go_ret
        have hp : putF l n = acc ++ [n] := by rw [HP.out, HF.out]; rfl
        refine ⟨_, rfl, ?_, (hbr.alloc hsw _).trans (ht4.below (by simp; omega) (fun g hg h => by have := (hu.lt g h).1; omega))⟩
        rw [hp, show icells (natI (acc ++ [n])) = icells (natI acc) ++ [.int .i64 (n : Int)] by simp [icells, natI], show (acc ++ [n]).length = acc.length + 1 by simp]; exact hown4
      · go_wp2
        go_ret
        have hp : putF l n = acc := by rw [HP.out, HF.out]; rfl
        refine ⟨_, rfl, ?_, hbr⟩
        rw [hp]; exact hu
end Go.Proofs.YtamhjgkigjpbhaaDoor

/- (XCr2) The walks of layer 28's reference: ahead, Same. -/
namespace Go.Proofs.YtamhjgkigjpbhaaDoor
open Go.RowKit

set_option maxHeartbeats 4000000 in
set_option maxRecDepth 100000 in
theorem ahead1_any (A : Option Addr) (m c : Nat) (l : List Nat) (a : Nat) (w : World) (B : Nat) (hm : m = l.length) (hs : Sl w B 1 A m c (icells (natI l))) (hB : B ≤ w.heap.size) (hl : m ≤ 1000000) :
    Calls Tryd.prog 63 #[.slice A m c, .int .i64 (a : Int), .int .i64 (-1)] w (OwnI w (a :: l)) := by
  subst hm
  have d1 : decide ((0 : Int) ≤ (a : Int)) = true := by simp
  have h0 := World.ownsRow_nil w w.heap.size 3 1
  go_enter Tryd.func63, Tryd.ntmps63
  go_wp2_with (at_builtin; first
    | (refine wpList_push rfl (.tmp 10) (.tmp 12) 25 rfl w.heap.size 3 1 8 sliceInt _ _ _ (h0.alloc _) rfl w.heap.size #[.int .i64 a] rfl (heap_alloc_new w _) rfl (by simp [Value.oneCell']) (by omega) (by omega) (by simp) ?_
       intro v3 w3 hown3 ht3 hat3 hne3
       have hz3 := ht3.size
       simp only [World.size_alloc] at hz3
       have hb3 : Below w.heap.size w w3 := ((Below.refl w.heap.size w).alloc (Nat.le_refl _) _).trans (ht3.below (by simp) (fun g hg h => by simp [Value.ownBlock] at h))
       clear ht3 hat3 hne3)
    | (refine wpList_extend rfl (.tmp 20) (.tmp 21) 25 rfl w.heap.size 3 1 8 sliceInt _ _ _ hown3 rfl B A l.length c (icells (natI l)) rfl (hs.below hb3 hB) (icells_one' _) (by omega) (by omega) (by omega) ?_
       intro v4 w4 hown4 ht4 hat4 hne4))
  go_ret
  refine ⟨_, rfl, ?_, hb3.trans (ht4.below (by omega) (fun g hg h => by have := (hown3.lt g h).1; omega))⟩
  rw [show icells (natI (a :: l)) = [] ++ [.int .i64 (a : Int)] ++ icells (natI l) by simp [icells, natI], show (a :: l).length = 0 + 1 + l.length by simp; omega]; exact hown4
set_option maxHeartbeats 4000000 in
set_option maxRecDepth 100000 in
theorem ahead2_any (A : Option Addr) (m c : Nat) (l : List Nat) (a b : Nat) (w : World) (B : Nat) (hm : m = l.length) (hs : Sl w B 1 A m c (icells (natI l))) (hB : B ≤ w.heap.size) (hl : m ≤ 1000000) :
    Calls Tryd.prog 63 #[.slice A m c, .int .i64 (a : Int), .int .i64 (b : Int)] w (OwnI w (a :: b :: l)) := by
  subst hm
  have d1 : decide ((0 : Int) ≤ (a : Int)) = true := by simp
  have d2 : decide ((0 : Int) ≤ (b : Int)) = true := by simp
  have h0 := World.ownsRow_nil w w.heap.size 3 1
  go_enter Tryd.func63, Tryd.ntmps63
  go_wp2_with (at_builtin; first
    | (refine wpList_push rfl (.tmp 10) (.tmp 12) 25 rfl w.heap.size 3 1 8 sliceInt _ _ _ (h0.alloc _) rfl w.heap.size #[.int .i64 a] rfl (heap_alloc_new w _) rfl (by simp [Value.oneCell']) (by omega) (by omega) (by simp) ?_
       intro v3 w3 hown3 ht3 hat3 hne3
       have hz3 := ht3.size
       simp only [World.size_alloc] at hz3
       have hb3 : Below w.heap.size w w3 := ((Below.refl w.heap.size w).alloc (Nat.le_refl _) _).trans (ht3.below (by simp) (fun g hg h => by simp [Value.ownBlock] at h))
       clear ht3 hat3 hne3)
    | (refine wpList_push rfl (.tmp 16) (.tmp 18) 25 rfl w.heap.size 3 1 8 sliceInt _ _ _ (hown3.alloc _) rfl w3.heap.size #[.int .i64 b] rfl (heap_alloc_new w3 _) rfl (by simp [Value.oneCell']) (by omega) (by omega) (by simp; omega) ?_
       intro v5 w5 hown5 ht5 hat5 hne5
       have hz5 := ht5.size
       simp only [World.size_alloc] at hz5
       have hb5 : Below w.heap.size w w5 := (hb3.alloc (by omega) _).trans (ht5.below (by simp; omega) (fun g hg h => by have := (hown3.lt g h).1; omega))
       clear ht5 hat5 hne5)
    | (refine wpList_extend rfl (.tmp 20) (.tmp 21) 25 rfl w.heap.size 3 1 8 sliceInt _ _ _ hown5 rfl B A l.length c (icells (natI l)) rfl (hs.below hb5 hB) (icells_one' _) (by omega) (by omega) (by omega) ?_
       intro v4 w4 hown4 ht4 hat4 hne4))
  go_ret
  refine ⟨_, rfl, ?_, hb5.trans (ht4.below (by omega) (fun g hg h => by have := (hown5.lt g h).1; omega))⟩
  rw [show icells (natI (a :: b :: l)) = [] ++ [.int .i64 (a : Int)] ++ [.int .i64 (b : Int)] ++ icells (natI l) by simp [icells, natI], show (a :: b :: l).length = 0 + 1 + 1 + l.length by simp; omega]; exact hown4
theorem below_drewN (w : World) (n : Nat) : Below w.heap.size w (w.drewN n) := have h := Below.refl w.heap.size w; ⟨h.os, h.tape, h.output, h.size, h.block⟩
theorem tru_of_said {w : World} {b : Bool} {en : Ending} {w' : World} (h : Said w b en w') : Tru w b en w' := by
  obtain ⟨e, n, rfl⟩ := h
  exact ⟨e, below_drewN w n⟩
set_option maxHeartbeats 4000000 in
set_option maxRecDepth 100000 in
theorem sameR_any (a b a' b' : Int) (A1 A2 D1 D2 : Option Addr) (n1 n2 m1 m2 c1 c2 d1 d2 : Nat) (k1 k2 l1 l2 : List Int) (w : World) (B : Nat) (h1 : Sl w B 1 A1 n1 c1 (icells k1)) (h2 : Sl w B 1 A2 n2 c2 (icells k2)) (h3 : Sl w B 1 D1 m1 d1 (icells l1)) (h4 : Sl w B 1 D2 m2 d2 (icells l2))
    (hB : B ≤ w.heap.size) (e1 : n1 = k1.length) (e2 : n2 = k2.length) (e3 : m1 = l1.length) (e4 : m2 = l2.length) (hl1 : n1 ≤ 1000000) (hl2 : n2 ≤ 1000000) :
    Calls Tryd.prog 39 #[.agg #[.int .u64 a, .int .u64 b, .slice A1 n1 c1, .slice A2 n2 c2], .agg #[.int .u64 a', .int .u64 b', .slice D1 m1 d1, .slice D2 m2 d2]] w (Tru w (decide (a = a' ∧ b = b' ∧ k1 = l1 ∧ k2 = l2))) := by
  obtain ⟨hb0, p0, q0, z0⟩ : Below w.heap.size w ((w.alloc (.cells #[.int .u64 a, .int .u64 b, .slice A1 n1 c1, .slice A2 n2 c2] 62)).alloc (.cells #[.int .u64 a', .int .u64 b', .slice D1 m1 d1, .slice D2 m2 d2] 62)) ∧ _ := box5 w (.cells #[.int .u64 a, .int .u64 b, .slice A1 n1 c1, .slice A2 n2 c2] 62) (.cells #[.int .u64 a', .int .u64 b', .slice D1 m1 d1, .slice D2 m2 d2] 62)
  have HE1 := Lib.hid (fun (w' : World) (hb : Below w.heap.size w w') => eqI28_any A1 D1 n1 c1 m1 d1 k1 l1 w' B B (h1.below hb hB) (h3.below hb hB) e1 e3 (by omega) |>.mono (fun _ _ h => tru_of_said h))
  have HE2 := Lib.hid (fun (w' : World) (hb : Below w.heap.size w w') => eqI28_any A2 D2 n2 c2 m2 d2 k2 l2 w' B B (h2.below hb hB) (h4.below hb hB) e2 e4 (by omega) |>.mono (fun _ _ h => tru_of_said h))
  obtain ⟨W0, hW0⟩ : ∃ W0, (w.alloc (.cells #[.int .u64 a, .int .u64 b, .slice A1 n1 c1, .slice A2 n2 c2] 62)).alloc (.cells #[.int .u64 a', .int .u64 b', .slice D1 m1 d1, .slice D2 m2 d2] 62) = W0 := ⟨_, rfl⟩
  rw [hW0] at hb0 p0 q0 z0
  have HW0 := Lib.hid hW0
  clear hW0 h1 h2 h3 h4 e1 e2 e3 e4
  generalize hq : decide (a = a' ∧ b = b' ∧ k1 = l1 ∧ k2 = l2) = q
  by_cases ea : a = a'
  · subst ea
    by_cases eb : b = b'
    · subst eb
      have hgo : Hid (q = (decide (k1 = l1) && decide (k2 = l2))) := Lib.hid (by rw [← hq]; rw [Bool.eq_iff_iff]; simp)
      have HA := Lib.hid (HE1.out W0 hb0)
      clear hq
      generalize decide (k1 = l1) = b1 at *
      go_enter Tryd.func39, Tryd.ntmps39
      go_wp2_with fail
      rw [HW0.out]
      refine Calls.mono HA.out ?_
      rintro e w1 ⟨rfl, hb1⟩
      have hb01 := hb0.trans (hb1.mono (by omega))
      cases b1
      · go_wp2_with fail
        go_ret
        exact ⟨by rw [hgo.out]; rfl, hb01⟩
      · have p1 := (hb1.block w.heap.size (by omega)).trans p0
        have q1 := (hb1.block (w.heap.size + 1) (by omega)).trans q0
        have f1 : w1.cell? ⟨w.heap.size, 3, none⟩ = some (.slice A2 n2 c2) := by rw [cell_of_row _ _ 3 _ _ (0, 0) p1]; rfl
        have f2 : w1.cell? ⟨w.heap.size + 1, 3, none⟩ = some (.slice D2 m2 d2) := by rw [cell_of_row _ _ 3 _ _ (0, 0) q1]; rfl
        have HB := Lib.hid (HE2.out w1 hb01)
        clear p1 q1 p0 q0 HE1 HE2
        generalize decide (k2 = l2) = b2 at *
        go_wp2_with fail
        refine Calls.mono HB.out ?_
        rintro e w2 ⟨rfl, hb2⟩
        go_wp2_with fail
        go_ret
        exact ⟨by rw [hgo.out]; rfl, hb01.trans (hb2.mono hb01.size)⟩
    · have hgo : Hid (q = false) := Lib.hid (by rw [← hq]; simp [eb])
      have hE : (b == b') = false := by simpa using eb
      clear eb hq
      go_enter Tryd.func39, Tryd.ntmps39
      go_wp2_with fail
      go_ret
      exact ⟨by rw [hgo.out]; rfl, by rw [HW0.out]; exact hb0⟩
  · have hgo : Hid (q = false) := Lib.hid (by rw [← hq]; simp [ea])
    have hE : (a == a') = false := by simpa using ea
    clear ea hq
    go_enter Tryd.func39, Tryd.ntmps39
    go_wp2_with fail
    go_ret
    exact ⟨by rw [hgo.out]; rfl, by rw [HW0.out]; exact hb0⟩
end Go.Proofs.YtamhjgkigjpbhaaDoor

/- (XCr3) Layer 28's reference, ways: what is asked and kept, in plain Lean and in memory. -/
namespace Go.Proofs.YtamhjgkigjpbhaaDoor
open Go.RowKit

theorem le_flat {α β : Type} {g : α → List β} : ∀ {l : List α} {y : α}, y ∈ l → (g y).length ≤ (l.flatMap g).length
  | [], _, h => by cases h
  | z :: l, y, h => by
    rw [List.flatMap_cons, List.length_append]
    rcases List.mem_cons.1 h with rfl | h
    · omega
    · have := le_flat (g := g) h; omega
/-- What a call of ways is asked with. -/
structure RC (f : List Nd) (n : Nat) (x : Way) : Prop where
  ok : WOk f x
  need : x.need < 256
  ban : x.ban < 256
  and0 : x.need &&& x.ban = 0
  cnt : cntF x.now < n
  todo : x.todo.length + 2 * n ≤ 1000000
  all : (leaves f n x).length ≤ 1000000
theorem split_and {f : List Nd} {j : Nat} {w : Way} (h : w.need &&& w.ban = 0) : ∀ y ∈ splitW f j w, y.need &&& y.ban = 0 := by
  have fin : ∀ v : Way, ∀ y ∈ finW v, y.need &&& y.ban = 0 := fun v y hy => by
    unfold finW at hy
    split at hy
    · rw [List.mem_singleton] at hy; subst hy; assumption
    · cases hy
  intro y hy
  unfold splitW at hy
  split at hy
  · rw [List.mem_singleton] at hy; subst hy; exact h
  split at hy
  · exact fin _ y hy
  split at hy
  · exact fin _ y hy
  split at hy
  · rw [List.mem_singleton] at hy; subst hy; exact h
  split at hy
  · simp only [List.mem_cons, List.not_mem_nil, or_false] at hy
    rcases hy with rfl | rfl <;> exact h
  split at hy
  · rw [List.mem_singleton] at hy; subst hy; exact h
  split at hy
  · simp only [List.mem_cons, List.not_mem_nil, or_false] at hy
    rcases hy with rfl | rfl <;> exact h
  split at hy
  · simp only [List.mem_cons, List.not_mem_nil, or_false] at hy
    rcases hy with rfl | rfl <;> exact h
  · cases hy
theorem leaves_step {f : List Nd} {n : Nat} {x : Way} {j : Nat} {t : List Nat} (hs : skipL x.now x.todo = j :: t) : leaves f (n + 1) x = (splitW f j (x.made j t)).flatMap (leaves f n) := by
  rw [leaves, hs]
theorem leaves_end {f : List Nd} {n : Nat} {x : Way} (hs : skipL x.now x.todo = []) : leaves f (n + 1) x = [x] := by
  rw [leaves, hs]
theorem skip_len (now : List Bool) (l : List Nat) : (skipL now l).length ≤ l.length := (List.dropWhile_suffix _).length_le
theorem RC.kid {f : List Nd} (hN : isN f = true) {n : Nat} {x : Way} (h : RC f (n + 1) x) {j : Nat} {t : List Nat} (hs : skipL x.now x.todo = j :: t) : ∀ y ∈ splitW f j (x.made j t), RC f n y := by
  intro y hy
  have hk : KidsOk f := kidsOk_of hN
  obtain ⟨h1, h2, h3⟩ := made_ok h.ok hs
  obtain ⟨h4, h5⟩ := split_ok hk h3 h1 y hy
  obtain ⟨h6, h7, h8⟩ := split_small (ndF hN h3) (w := x.made j t) h.need h.ban y hy
  have hl := skip_len x.now x.todo
  rw [hs] at hl
  have ha := h.all
  rw [leaves_step hs] at ha
  have hm := le_flat (g := leaves f n) hy
  refine ⟨h4, h6, h7, split_and (w := x.made j t) h.and0 y hy, by rw [h5]; have := h.cnt; omega, ?_, by omega⟩
  have := h.todo
  change y.todo.length ≤ t.length + 2 at h8
  simp only [List.length_cons] at hl
  omega
/-- A way of the reference, read. -/
structure RR (w : World) (x : Way) (A1 : Option Addr) (c1 : Nat) (A2 : Option Addr) (c2 : Nat) (A3 : Option Addr) (c3 : Nat) : Prop where
  next : TSl w 3 A1 (onL x.next).length c1 (icells (natI (onL x.next)))
  now : TSl w 3 A2 (onL x.now).length c2 (icells (natI (onL x.now)))
  todo : Sl w w.heap.size 1 A3 x.todo.length c3 (icells (natI x.todo))
theorem Sl.tail1 {w : World} {B : Nat} {A : Option Addr} {n c : Nat} {x : Value} {xs : List Value} (h : Sl w B 1 A (n + 1) c (x :: xs)) : Sl w B 1 (if c = 1 then A else A.map (·.add 1)) n (c - 1) xs := by
  have hd := h.drop (k := 1) (by omega)
  simpa using hd
/-- What ways answers. -/
def WaysPost (w : World) (T : List Cov) (en : Ending) (w' : World) : Prop :=
  ∃ v xs, en = .returned v ∧ w'.ownsRow w.heap.size 62 4 v T.length xs ∧ CovsAt w' xs T ∧ Below w.heap.size w w'
theorem ways_none {w w' : World} (hb : Below w.heap.size w w') : WaysPost w [] (.returned (.slice none 0 0)) w' := ⟨_, [], rfl, World.ownsRow_nil _ _ _ _, CovsAt.nil _, hb⟩
theorem CovsAt.one' {w : World} {xs : List Value} {T : List Cov} (h : CovsAt w xs T) (hl : xs.length = T.length * 4) : ∀ u ∈ xs, u.oneCell' = true := by
  intro u hu
  obtain ⟨i, hi, rfl⟩ := List.mem_iff_getElem.1 hu
  have hk : i / 4 < T.length := by omega
  obtain ⟨A1, c1, A2, c2, e0, e1, e2, e3, _⟩ := h (i / 4) T[i / 4] (List.getElem?_eq_getElem hk)
  have hi4 : i = i / 4 * 4 ∨ i = i / 4 * 4 + 1 ∨ i = i / 4 * 4 + 2 ∨ i = i / 4 * 4 + 3 := by omega
  rcases hi4 with e | e | e | e
  · rw [← e, List.getElem?_eq_getElem hi] at e0; injection e0 with e0; rw [e0]; rfl
  · rw [← e, List.getElem?_eq_getElem hi] at e1; injection e1 with e1; rw [e1]; rfl
  · rw [← e, List.getElem?_eq_getElem hi] at e2; injection e2 with e2; rw [e2]; rfl
  · rw [← e, List.getElem?_eq_getElem hi] at e3; injection e3 with e3; rw [e3]; rfl
theorem CovsAt.append {w : World} {xs ys : List Value} {T U : List Cov} (h : CovsAt w xs T) (hl : xs.length = T.length * 4) (h' : CovsAt w ys U) : CovsAt w (xs ++ ys) (T ++ U) := by
  intro k c hk
  by_cases hlt : k < T.length
  · rw [List.getElem?_append_left hlt] at hk
    obtain ⟨A1, c1, A2, c2, e0, e1, e2, e3, t1, t2⟩ := h k c hk
    refine ⟨A1, c1, A2, c2, ?_, ?_, ?_, ?_, t1, t2⟩ <;> (rw [List.getElem?_append_left (by omega)]; assumption)
  · rw [List.getElem?_append_right (by omega)] at hk
    obtain ⟨A1, c1, A2, c2, e0, e1, e2, e3, t1, t2⟩ := h' _ c hk
    have s : ∀ i, k * 4 + i - xs.length = (k - T.length) * 4 + i := fun i => by omega
    have s0 : k * 4 - xs.length = (k - T.length) * 4 := by omega
    refine ⟨A1, c1, A2, c2, ?_, ?_, ?_, ?_, t1, t2⟩
    · rw [List.getElem?_append_right (by omega), s0]; exact e0
    · rw [List.getElem?_append_right (by omega), s]; exact e1
    · rw [List.getElem?_append_right (by omega), s]; exact e2
    · rw [List.getElem?_append_right (by omega), s]; exact e3
theorem sliceCovR : SliceT Tryd.prog 58 62 4 64 :=
  SliceT.mk (z := .agg #[.int .u64 0, .int .u64 0, .slice none 0 0, .slice none 0 0]) Tryd.underlying58 (by kernel_rfl) (by decide) (by decide)
/-- Four cells are put into a box. -/
theorem set4 {w : World} {g T : Nat} {a b c d : Value} {cs : Array Value} (h : w.heap[g]? = some (.cells cs T (0, 0))) (hc : cs.size = 4) :
    ((((w.setCell ⟨g, 0, none⟩ a).setCell ⟨g, 1, none⟩ b).setCell ⟨g, 2, none⟩ c).setCell ⟨g, 3, none⟩ d).heap[g]? = some (.cells #[a, b, c, d] T (0, 0)) := by
  have h1 := heap_setCell_same w g 0 _ _ a h
  have h2 := heap_setCell_same _ g 1 _ _ b h1
  have h3 := heap_setCell_same _ g 2 _ _ c h2
  have h4 := heap_setCell_same _ g 3 _ _ d h3
  rw [h4]
  clear h1 h2 h3 h4 h
  obtain ⟨l⟩ := cs
  match l, hc with
  | [p, q, r, s], _ => simp
/-- The box's last cell is turned, and a copy of the box is made. -/
theorem later_world {w w4 : World} {g T : Nat} {a b c d v : Value} {z : Array Value} (h : w4.heap[g]? = some (.cells #[a, b, c, d] T (0, 0))) (hz : z.size = 4) (hb : Below w.heap.size w w4) (hg : w.heap.size ≤ g) {V : World}
    (hV : V = (((((w4.setCell ⟨g, 3, none⟩ v).alloc (.cells z T)).setCell ⟨w4.heap.size, 0, none⟩ a).setCell ⟨w4.heap.size, 1, none⟩ b).setCell ⟨w4.heap.size, 2, none⟩ c).setCell ⟨w4.heap.size, 3, none⟩ v) :
    Below w.heap.size w V ∧ Tch (fun k => k = g) w4 V ∧ V.heap[g]? = some (.cells #[a, b, c, v] T (0, 0)) ∧ V.heap[w4.heap.size]? = some (.cells #[a, b, c, v] T (0, 0)) ∧ V.heap.size = w4.heap.size + 1 := by
  have hgl := heap_lt h
  have hw := hb.size
  have s1 : (w4.setCell ⟨g, 3, none⟩ v).heap.size = w4.heap.size := by simp
  have hn : ((w4.setCell ⟨g, 3, none⟩ v).alloc (.cells z T)).heap[w4.heap.size]? = some (.cells z T (0, 0)) := by
    have := heap_alloc_new (w4.setCell ⟨g, 3, none⟩ v) (.cells z T)
    rwa [s1] at this
  have h4 := set4 (a := a) (b := b) (c := c) (d := v) hn hz
  have e1 := heap_setCell_same w4 g 3 _ _ v h
  have hT : Tch (fun k => k = g) w4 V := by
    rw [hV]
    have t1 := ((Tch.refl (fun k => k = g) w4).setCell (p := ⟨g, 3, none⟩) (fun _ => rfl) v).alloc (.cells z T)
    exact (((t1.setCell (p := ⟨w4.heap.size, 0, none⟩) (fun h => absurd h (by simp)) a).setCell (p := ⟨w4.heap.size, 1, none⟩) (fun h => absurd h (by simp)) b).setCell (p := ⟨w4.heap.size, 2, none⟩) (fun h => absurd h (by simp)) c).setCell (p := ⟨w4.heap.size, 3, none⟩) (fun h => absurd h (by simp)) v
  refine ⟨hb.trans (hT.below hw (fun k hk e => by omega)), hT, ?_, by rw [hV]; exact h4, ?_⟩
  · rw [hV]
    rw [Below.heap_setCell _ _ _ _ (by show g ≠ w4.heap.size; omega), Below.heap_setCell _ _ _ _ (by show g ≠ w4.heap.size; omega), Below.heap_setCell _ _ _ _ (by show g ≠ w4.heap.size; omega), Below.heap_setCell _ _ _ _ (by show g ≠ w4.heap.size; omega), Below.heap_alloc _ _ _ (by rw [s1]; exact hgl), e1]
    simp
  · rw [hV]; simp
theorem parts_kids {f : List Nd} (hN : isN f = true) {k : Nat} (hk : k < f.length) : partsV (spans f) k f[k] = kids f k ∧ (takesV f[k] = 2 → 1 ≤ k ∧ ∃ v : Int, (spans f)[k - 1]? = some v ∧ 0 ≤ v ∧ v ≤ (f.length : Int)) := by
  have hw := isN_good hN
  have ht : takesV f[k] = takes f[k].op := takesV_eq (takesV_bad.1 (good_at hw hk).2).1
  have hsl := spans_len hw
  refine ⟨by rw [kids_at hw hk]; unfold partsV; rw [ht], fun h => ?_⟩
  rw [ht] at h
  have hF := ndF hN hk
  have ho : opAt f k = f[k].op := by simp [opAt, List.getD, hk]
  have h2 : opAt f k = 5 ∨ opAt f k = 6 ∨ opAt f k = 9 ∨ opAt f k = 10 := by
    have := hF.op
    rw [ho] at this ⊢
    rcases this with e | e | e | e | e | e | e | e | e <;> rw [e] at h ⊢ <;> simp [takes] at h ⊢
  obtain ⟨e, hl, hr⟩ := hF.kid2 h2
  rw [kids_at hw hk, if_neg (by omega), if_pos h] at e
  injection e with e1 e2
  have hk1 : k - 1 < (spans f).length := by omega
  rw [List.getElem?_eq_getElem hk1] at e1 ⊢
  refine ⟨by omega, _, rfl, ?_, ?_⟩
  · simp only [Option.getD_some] at e1; omega
  · simp only [Option.getD_some] at e1; omega
end Go.Proofs.YtamhjgkigjpbhaaDoor

/- (XCr4) The walk of layer 28's reference: ways. -/
namespace Go.Proofs.YtamhjgkigjpbhaaDoor
open Go.RowKit

def slLen (v : Value) : Nat := match v with | .slice _ n _ => n | _ => 0
theorem on_any (l : List Bool) (i : Nat) : (natI (onL l)).any ((i : Int) == ·) = l.getD i false := by
  rw [natI_any, Bool.eq_iff_iff, decide_eq_true_eq, onL_mem]
theorem skip_go {now : List Bool} {j : Nat} {t : List Nat} (h : now.getD j false = true) : skipL now (j :: t) = skipL now t := by
  unfold skipL; rw [List.dropWhile_cons, if_pos h]
theorem skip_stop {now : List Bool} {j : Nat} {t : List Nat} (h : now.getD j false = false) : skipL now (j :: t) = j :: t := by
  unfold skipL; rw [List.dropWhile_cons, if_neg (by rw [h]; decide)]
theorem cell4 {w : World} {b t : Nat} {p q r s : Value} (h : w.heap[b]? = some (.cells #[p, q, r, s] t (0, 0))) : w.cell? ⟨b, 0, none⟩ = some p ∧ w.cell? ⟨b, 1, none⟩ = some q ∧ w.cell? ⟨b, 2, none⟩ = some r ∧ w.cell? ⟨b, 3, none⟩ = some s := by
  refine ⟨?_, ?_, ?_, ?_⟩ <;> (rw [cell_of_row _ _ _ _ _ (0, 0) h]; rfl)
theorem ways_drew {w w' : World} {T : List Cov} {e : Ending} {k : Nat} (h : WaysPost w T e w') : WaysPost w T e (w'.drewN k) := by
  obtain ⟨v, xs, he, ho, hc, hb⟩ := h
  exact ⟨v, xs, he, own_below ho (below_drewN _ _), hc.keep (Tch.of_below (below_drewN _ _)) (spares_new _ _), hb.trans ((below_drewN _ _).mono hb.size)⟩
theorem ways_drew1 {w w' : World} {T : List Cov} {e : Ending} (h : WaysPost w T e w') : WaysPost w T e w'.drew := ways_drew (k := 1) h
theorem ways_one {w w1 : World} {x : Way} {A1 A2 A3 : Option Addr} {c1 c2 c3 : Nat} (hb : Below w.heap.size w w1) (hr : RR w x A1 c1 A2 c2 A3 c3) :
    WaysPost w [x.cov] (.returned (.slice (some ⟨w1.heap.size, 0, none⟩) 1 1)) (w1.alloc (.cells #[.int .u64 (x.need : Int), .int .u64 (x.ban : Int), .slice A1 (onL x.next).length c1, .slice A2 (onL x.now).length c2] 62)) := by
  have hba : Below w.heap.size w (w1.alloc (.cells #[.int .u64 (x.need : Int), .int .u64 (x.ban : Int), .slice A1 (onL x.next).length c1, .slice A2 (onL x.now).length c2] 62)) := hb.alloc hb.size _
  refine ⟨_, _, rfl, own_base (World.ownsRow_lit w1 #[.int .u64 (x.need : Int), .int .u64 (x.ban : Int), .slice A1 (onL x.next).length c1, .slice A2 (onL x.now).length c2] 1 (Nat.le_refl _) (by unfold maxLen; omega) rfl) hb.size, fun k c hk => ?_, hba⟩
  match k, hk with
  | 0, hk => cases hk; exact ⟨A1, c1, A2, c2, rfl, rfl, rfl, rfl, hr.next.below hba, hr.now.below hba⟩
theorem ways_base {w w1 w' : World} {T : List Cov} {e : Ending} (hb : Below w.heap.size w w1) (h : WaysPost w1 T e w') : WaysPost w T e w' := by
  obtain ⟨v, xs, he, ho, hc, hb1⟩ := h
  exact ⟨v, xs, he, own_base ho hb.size, hc, hb.trans (hb1.mono hb.size)⟩

/-- The box's last cell is turned, and a copy of the box is made, as the walk says it. -/
theorem later_world' {w w4 : World} {g T : Nat} {a b c d v : Value} (h : w4.heap[g]? = some (.cells #[a, b, c, d] T (0, 0))) (hb : Below w.heap.size w w4) (hg : w.heap.size ≤ g) {V : World}
    (hV : V = (w4.setCell ⟨g, 3, none⟩ v).alloc (.cells #[a, b, c, v] T)) :
    Below w.heap.size w V ∧ Tch (fun k => k = g) w4 V ∧ V.heap[g]? = some (.cells #[a, b, c, v] T (0, 0)) ∧ V.heap[w4.heap.size]? = some (.cells #[a, b, c, v] T (0, 0)) ∧ V.heap.size = w4.heap.size + 1 := by
  have hgl := heap_lt h
  have hw := hb.size
  have s1 : (w4.setCell ⟨g, 3, none⟩ v).heap.size = w4.heap.size := by simp
  have hn : ((w4.setCell ⟨g, 3, none⟩ v).alloc (.cells #[a, b, c, v] T)).heap[w4.heap.size]? = some (.cells #[a, b, c, v] T (0, 0)) := by
    have := heap_alloc_new (w4.setCell ⟨g, 3, none⟩ v) (.cells #[a, b, c, v] T)
    rwa [s1] at this
  have e1 := heap_setCell_same w4 g 3 _ _ v h
  have hT : Tch (fun k => k = g) w4 V := by
    rw [hV]
    exact ((Tch.refl (fun k => k = g) w4).setCell (p := ⟨g, 3, none⟩) (fun _ => rfl) v).alloc (.cells #[a, b, c, v] T)
  refine ⟨hb.trans (hT.below hw (fun k hk e => by omega)), hT, ?_, by rw [hV]; exact hn, by rw [hV]; simp⟩
  rw [hV, Below.heap_alloc _ _ _ (by rw [s1]; exact hgl), e1]
  simp
theorem cell_in {w : World} {g T : Nat} {cs : Array Value} (h : w.heap[g]? = some (.cells cs T (0, 0))) (i j : Nat) (hij : i ≠ j) (v : Value) : (w.setCell ⟨g, i, none⟩ v).cell? ⟨g, j, none⟩ = w.cell? ⟨g, j, none⟩ := by
  rw [cell_of_row _ _ j _ _ (0, 0) h, cell_of_row _ _ j _ _ (0, 0) (heap_setCell_same w g i _ _ v h)]
  simp [hij]
/-- Two answers, one behind the other. -/
theorem ways_join {w w2 w' : World} {T1 T2 : List Cov} {u v : Value} {n1 n2 : Nat} {xs1 xs2 : List Value} (hb : Below w.heap.size w w2) (h1 : w2.ownsRow w.heap.size 62 4 u T1.length xs1) (c1 : CovsAt w2 xs1 T1) (c2 : CovsAt w2 xs2 T2)
    (ho : w'.ownsRow w.heap.size 62 4 v (n1 + n2) (xs1 ++ xs2)) (e1 : n1 = T1.length) (e2 : n2 = T2.length) (ht : Tch (fun k => u.ownBlock = some k) w2 w') : WaysPost w (T1 ++ T2) (.returned v) w' := by
  subst e1 e2
  have hs : Spares (fun k => u.ownBlock = some k) w2 3 := by
    intro k cs hk e
    rcases h1.2 with ⟨rfl, _⟩ | ⟨g, cap, cur, rfl, _, hg, _⟩
    · cases e
    · simp only [Value.ownBlock, Option.some.injEq] at e
      subst e
      rw [hg] at hk
      injection hk with hk
      injection hk with _ hk
      exact absurd hk (by decide)
  refine ⟨v, xs1 ++ xs2, rfl, by rw [List.length_append]; exact ho, (c1.append h1.1 c2).keep ht hs, hb.trans (ht.below hb.size (fun g hg h => by have := (h1.lt g h).1; omega))⟩
set_option maxHeartbeats 40000000 in
set_option maxRecDepth 100000 in
theorem ways_any (f : List Nd) (Af : Option Addr) (cf : Nat) (Ab : Option Addr) (nb cb : Nat) (hN : isN f = true) (hl : f.length ≤ 1000) (hnb : nb = (spans f).length) (B : Nat) : ∀ (n : Nat) (x : Way) (na bn : Int) (A1 : Option Addr) (n1 c1 : Nat) (A2 : Option Addr) (n2 c2 : Nat) (A3 : Option Addr) (n3 c3 : Nat) (w : World),
    Sl w B 2 Af f.length cf (ncells f) → Sl w B 1 Ab nb cb (icells (spans f)) → B ≤ w.heap.size → RR w x A1 c1 A2 c2 A3 c3 → RC f n x → na = (x.need : Int) → bn = (x.ban : Int) → n1 = (onL x.next).length → n2 = (onL x.now).length → n3 = x.todo.length →
    Calls Tryd.prog 38 #[.slice Af f.length cf, .slice Ab nb cb, .agg #[.int .u64 na, .int .u64 bn, .slice A1 n1 c1, .slice A2 n2 c2], .slice A3 n3 c3] w (WaysPost w ((leaves f n x).map Way.cov)) := by
  intro n
  induction n with
  | zero => intro x _ _ _ _ _ _ _ _ _ _ _ w _ _ _ _ hc; exact absurd hc.cnt (by omega)
  | succ n ih =>
  intro x na bn A1 n1 c1 A2 n2 c2 A3 n3 c3 w hf hs hB hr hc ena enb en1 en2 en3
  subst ena enb en1 en2 en3 hnb
  have IH := Lib.hid ih
  have HN := Lib.hid hN
  have HC := Lib.hid hc
  have hn1 : (onL x.next).length ≤ 1000 := Nat.le_trans (onL_len _) (by rw [hc.ok.next]; exact hl)
  have hn2 : (onL x.now).length ≤ 1000 := Nat.le_trans (onL_len _) (by rw [hc.ok.now]; exact hl)
  have hn3 : x.todo.length ≤ 1000000 := by have := hc.todo; omega
  have HR := Lib.hid hr
  have HF := Lib.hid hf
  have HS := Lib.hid hs
  have hcf := hf.cap
  have hcb := hs.cap
  have hk1 := hr.next.sl.cap
  have hk2 := hr.now.sl.cap
  have hb0 : Below w.heap.size w (w.alloc (.cells #[.int .u64 (x.need : Int), .int .u64 (x.ban : Int), .slice A1 (onL x.next).length c1, .slice A2 (onL x.now).length c2] 62)) := (Below.refl _ _).alloc (Nat.le_refl _) _
  have hx0 := heap_alloc_new w (.cells #[.int .u64 (x.need : Int), .int .u64 (x.ban : Int), .slice A1 (onL x.next).length c1, .slice A2 (onL x.now).length c2] 62)
  have hxz : (w.alloc (.cells #[.int .u64 (x.need : Int), .int .u64 (x.ban : Int), .slice A1 (onL x.next).length c1, .slice A2 (onL x.now).length c2] 62)).heap.size = w.heap.size + 1 := by simp
  obtain ⟨W0, hW0⟩ : ∃ W0, w.alloc (.cells #[.int .u64 (x.need : Int), .int .u64 (x.ban : Int), .slice A1 (onL x.next).length c1, .slice A2 (onL x.now).length c2] 62) = W0 := ⟨_, rfl⟩
  rw [hW0] at hb0 hx0 hxz
  have HW0 := Lib.hid hW0
  have HB0 := Lib.hid hb0
  have HX0 := Lib.hid hx0
  clear hW0 hr hf hs hc ih hN hb0 hx0
  go_enter Tryd.func38, Tryd.ntmps38
  go_wp2_with fail
  rw [HW0.out]
  go_loopw [3] (fun v wr => ∃ (l : List Nat) (A : Option Addr) (c : Nat), v = .slice A l.length c ∧ Below W0.heap.size W0 wr ∧ Sl w w.heap.size 1 A l.length c (icells (natI l)) ∧ Hid (skipL x.now l = skipL x.now x.todo) ∧ l.length ≤ x.todo.length) (fun v _ => slLen v)
  case atStart => exact ⟨x.todo, A3, c3, rfl, Below.refl _ _, HR.out.todo, rfl, by omega⟩
  case round =>
    obtain ⟨l, A, c, rfl, hbr, hT, HSK, hll⟩ := hrel
    have hszr := hbr.size
    have q0 := (hbr.block w.heap.size (by omega)).trans HX0.out
    obtain ⟨k0, k1, k2, k3⟩ := cell4 q0
    have Q0 := Lib.hid q0
    clear q0
    cases l with
    | nil =>
      have HE : Hid (leaves f (n + 1) x = [x]) := Lib.hid (leaves_end (by rw [← HSK.out]; rfl))
      go_wp2_with fail
      refine wp_region_held_drew (S := fun w' => w'.cell? ⟨w.heap.size, 3, none⟩ = some (.slice A2 (onL x.now).length c2)) (by kernel_rfl) (k3) (fun hS => ?_)
      refine wpAnyH_takeD (i := 0) (v := ?_) rfl (by kernel_rfl) (by kernel_rfl) (by kernel_rfl) (fun _ _ _ h => h) (Or.inl ⟨by kernel_rfl, ?_⟩) hS ?_
      rotate_left 1
      · (intro w' hSw; (try dsimp only at hSw); go_simp; try (with_reducible rfl))
      try simp only [Act.put, List.setIfInBounds_toArray, List.set_cons_zero, List.set_cons_succ]
      refine wpAnyH_takeD (i := 1) (v := ?_) rfl (by kernel_rfl) (by kernel_rfl) (by kernel_rfl) (fun _ _ _ h => h) (Or.inl ⟨by kernel_rfl, ?_⟩) hS ?_
      rotate_left 1
      · (intro w' hSw; (try dsimp only at hSw); go_simp; try (with_reducible rfl))
      try simp only [Act.put, List.setIfInBounds_toArray, List.set_cons_zero, List.set_cons_succ]
      refine wpAnyH_takeD (i := 2) (v := ?_) rfl (by kernel_rfl) (by kernel_rfl) (by kernel_rfl) (fun _ _ _ h => h) (Or.inl ⟨by kernel_rfl, ?_⟩) hS ?_
      rotate_left 1
      · (intro w' hSw; (try dsimp only at hSw); go_simp; try (with_reducible rfl))
      try simp only [Act.put, List.setIfInBounds_toArray, List.set_cons_zero, List.set_cons_succ]
      refine wpAnyH_takeD (i := 3) (v := ?_) rfl (by kernel_rfl) (by kernel_rfl) (by kernel_rfl) (fun _ _ _ h => h) (Or.inl ⟨by kernel_rfl, ?_⟩) hS ?_
      rotate_left 1
      · (intro w' hSw; (try dsimp only at hSw); go_simp; try (with_reducible rfl))
      try simp only [Act.put, List.setIfInBounds_toArray, List.set_cons_zero, List.set_cons_succ]
      refine wpAnyH_takeD (i := 4) (v := undef) rfl (by kernel_rfl) (by kernel_rfl) (by kernel_rfl) (fun _ _ _ h => h) (Or.inr ⟨by kernel_rfl, rfl⟩) hS ?_
      try simp only [Act.put, List.setIfInBounds_toArray, List.set_cons_zero, List.set_cons_succ]
      refine wpAnyH_takeD (i := 5) (v := undef) rfl (by kernel_rfl) (by kernel_rfl) (by kernel_rfl) (fun _ _ _ h => h) (Or.inr ⟨by kernel_rfl, rfl⟩) hS ?_
      try simp only [Act.put, List.setIfInBounds_toArray, List.set_cons_zero, List.set_cons_succ]
      refine wpAnyH_takeD (i := 6) (v := undef) rfl (by kernel_rfl) (by kernel_rfl) (by kernel_rfl) (fun _ _ _ h => h) (Or.inr ⟨by kernel_rfl, rfl⟩) hS ?_
      try simp only [Act.put, List.setIfInBounds_toArray, List.set_cons_zero, List.set_cons_succ]
      refine wpAnyH_takeD (i := 7) (v := undef) rfl (by kernel_rfl) (by kernel_rfl) (by kernel_rfl) (fun _ _ _ h => h) (Or.inr ⟨by kernel_rfl, rfl⟩) hS ?_
      try simp only [Act.put, List.setIfInBounds_toArray, List.set_cons_zero, List.set_cons_succ]
      refine wpAnyH_takeD (i := 8) (v := undef) rfl (by kernel_rfl) (by kernel_rfl) (by kernel_rfl) (fun _ _ _ h => h) (Or.inr ⟨by kernel_rfl, rfl⟩) hS ?_
      try simp only [Act.put, List.setIfInBounds_toArray, List.set_cons_zero, List.set_cons_succ]
      refine wpAnyH_takeD (i := 9) (v := undef) rfl (by kernel_rfl) (by kernel_rfl) (by kernel_rfl) (fun _ _ _ h => h) (Or.inr ⟨by kernel_rfl, rfl⟩) hS ?_
      try simp only [Act.put, List.setIfInBounds_toArray, List.set_cons_zero, List.set_cons_succ]
      refine wpAnyH_takeD (i := 10) (v := ?_) rfl (by kernel_rfl) (by kernel_rfl) (by kernel_rfl) (fun _ _ _ h => h) (Or.inl ⟨by kernel_rfl, ?_⟩) hS ?_
      rotate_left 1
      · (intro w' hSw; (try dsimp only at hSw); go_simp; try (with_reducible rfl))
      try simp only [Act.put, List.setIfInBounds_toArray, List.set_cons_zero, List.set_cons_succ]
      refine wpAnyH_done (by kernel_rfl) ?_ _
      have hbw : Below w.heap.size w wr := HB0.out.trans (hbr.mono (by omega))
      go_wp2_with fail
      go_ret
      rw [HE.out]
      refine ways_drew1 (ways_one hbw HR.out)
    | cons j t =>
      have hct := hT.cap
      have hmax := hT.max
      have HT := Lib.hid hT
      obtain ⟨b, o, rfl, hbb0, hj0⟩ := hT.rd.at_ (icells_at' (l := natI (j :: t)) (k := 0) (by simp [natI]))
      have hbd : Below wr.heap.size wr wr.drew := Below.drew (Below.refl _ _)
      obtain ⟨wd, hwd⟩ : ∃ wd, wr.drew = wd := ⟨_, rfl⟩
      rw [hwd] at hbd
      have HWD := Lib.hid hwd
      clear hwd
      have hbd0 : Below w.heap.size w wd := HB0.out.trans ((hbr.trans (hbd.mono hszr)).mono (by omega))
      have HIN := Lib.hid (inR_any A2 (onL x.now).length c2 (natI (onL x.now)) j wd w.heap.size (by simp [natI]) (HR.out.now.sl.below hbd0 (Nat.le_refl _)) hbd0.size (by omega))
      rw [on_any] at HIN
      have hbwr : Below w.heap.size w wr := HB0.out.trans (hbr.mono (by omega))
      have hbb : b < wr.heap.size := Nat.lt_of_lt_of_le hbb0 hbwr.size
      have hj : wr.cell? ⟨b, o, none⟩ = some (.int .i64 (j : Int)) := (hbwr.cell (p := ⟨b, o, none⟩) hbb0).trans (by simpa [natI] using hj0)
      clear hT hj0
      obtain ⟨A', hif⟩ : ∃ A', (if c = 1 then some (⟨b, o, none⟩ : Addr) else some ⟨b, o + 1, none⟩) = A' := ⟨_, rfl⟩
      have HTT : Hid (Sl w w.heap.size 1 A' t.length (c - 1) (icells (natI t))) := Lib.hid (by rw [← hif]; exact Sl.tail1 HT.out)
      cases hnow : x.now.getD j false
      · rw [hnow] at HIN
        go_wp2_with fail
        refine wp_region_held_drew (S := fun w' => w'.cell? ⟨w.heap.size, 3, none⟩ = some (.slice A2 (onL x.now).length c2) ∧ w'.cell? ⟨b, o, none⟩ = some (.int .i64 (j : Int))) (by kernel_rfl) ⟨k3, hj⟩ (fun hS => ?_)
        refine wpAnyH_takeD (i := 0) (v := ?_) rfl (by kernel_rfl) (by kernel_rfl) (by kernel_rfl) (fun _ _ _ h => h) (Or.inl ⟨by kernel_rfl, ?_⟩) hS ?_
        rotate_left 1
        · (intro w' hSw; (try dsimp only at hSw); go_simp; try (with_reducible rfl))
        try simp only [Act.put, List.setIfInBounds_toArray, List.set_cons_zero, List.set_cons_succ]
        refine wpAnyH_takeD (i := 1) (v := ?_) rfl (by kernel_rfl) (by kernel_rfl) (by kernel_rfl) (fun _ _ _ h => h) (Or.inl ⟨by kernel_rfl, ?_⟩) hS ?_
        rotate_left 1
        · (intro w' hSw; (try dsimp only at hSw); go_simp; try (with_reducible rfl))
        try simp only [Act.put, List.setIfInBounds_toArray, List.set_cons_zero, List.set_cons_succ]
        refine wpAnyH_takeD (i := 2) (v := ?_) rfl (by kernel_rfl) (by kernel_rfl) (by kernel_rfl) (fun _ _ _ h => h) (Or.inl ⟨by kernel_rfl, ?_⟩) hS ?_
        rotate_left 1
        · (intro w' hSw; (try dsimp only at hSw); go_simp; try (with_reducible rfl))
        try simp only [Act.put, List.setIfInBounds_toArray, List.set_cons_zero, List.set_cons_succ]
        refine wpAnyH_takeD (i := 3) (v := ?_) rfl (by kernel_rfl) (by kernel_rfl) (by kernel_rfl) (fun _ _ _ h => h) (Or.inl ⟨by kernel_rfl, ?_⟩) hS ?_
        rotate_left 1
        · (intro w' hSw; (try dsimp only at hSw); go_simp; try (with_reducible rfl))
        try simp only [Act.put, List.setIfInBounds_toArray, List.set_cons_zero, List.set_cons_succ]
        refine wpAnyH_takeD (i := 4) (v := ?_) rfl (by kernel_rfl) (by kernel_rfl) (by kernel_rfl) (fun _ _ _ h => h) (Or.inl ⟨by kernel_rfl, ?_⟩) hS ?_
        rotate_left 1
        · (intro w' hSw; (try dsimp only at hSw); go_simp; try (with_reducible rfl))
        try simp only [Act.put, List.setIfInBounds_toArray, List.set_cons_zero, List.set_cons_succ]
        refine wpAnyH_takeD (i := 5) (v := ?_) rfl (by kernel_rfl) (by kernel_rfl) (by kernel_rfl) (fun _ _ _ h => h) (Or.inl ⟨by kernel_rfl, ?_⟩) hS ?_
        rotate_left 1
        · (intro w' hSw; (try dsimp only at hSw); go_simp; try (with_reducible rfl))
        try simp only [Act.put, List.setIfInBounds_toArray, List.set_cons_zero, List.set_cons_succ]
        refine wpAnyH_takeD (i := 6) (v := ?_) rfl (by kernel_rfl) (by kernel_rfl) (by kernel_rfl) (fun _ _ _ h => h) (Or.inl ⟨by kernel_rfl, ?_⟩) hS ?_
        rotate_left 1
        · (intro w' hSw; (try dsimp only at hSw); go_simp; try (with_reducible rfl))
        try simp only [Act.put, List.setIfInBounds_toArray, List.set_cons_zero, List.set_cons_succ]
        refine wpAnyH_takeD (i := 7) (v := ?_) rfl (by kernel_rfl) (by kernel_rfl) (by kernel_rfl) (fun _ _ _ h => h) (Or.inl ⟨by kernel_rfl, ?_⟩) hS ?_
        rotate_left 1
        · (intro w' hSw; (try dsimp only at hSw); go_simp; try (with_reducible rfl))
        try simp only [Act.put, List.setIfInBounds_toArray, List.set_cons_zero, List.set_cons_succ]
        refine wpAnyH_takeD (i := 8) (v := ?_) rfl (by kernel_rfl) (by kernel_rfl) (by kernel_rfl) (fun _ _ _ h => h) (Or.inl ⟨by kernel_rfl, ?_⟩) hS ?_
        rotate_left 1
        · (intro w' hSw; (try dsimp only at hSw); go_simp; try (with_reducible rfl))
        try simp only [Act.put, List.setIfInBounds_toArray, List.set_cons_zero, List.set_cons_succ]
        refine wpAnyH_oneD (i := 9) rfl (by kernel_rfl) (fun K hK => ?_)
        rw [if_pos (by kernel_rfl)]
        go_simp
        rw [HWD.out]
        refine Calls.mono HIN.out ?_
        rintro e w1 ⟨rfl, hb1'⟩
        have hb1 : Below wr.heap.size wr w1 := hbd.trans (hb1'.mono hbd.size)
        clear hb1'
        dsimp only
        refine hK.out _ _ ⟨(hb1.cell (p := ⟨w.heap.size, 3, none⟩) (show w.heap.size < wr.heap.size by omega)).trans k3, (hb1.cell (p := ⟨b, o, none⟩) hbb).trans hj⟩ (fun hS => ?_)
        clear hK
        try simp only [Act.put, List.setIfInBounds_toArray, List.set_cons_zero, List.set_cons_succ]
        refine wpAnyH_takeD (i := 10) (v := ?_) rfl (by kernel_rfl) (by kernel_rfl) (by kernel_rfl) (fun _ _ _ h => h) (Or.inl ⟨by kernel_rfl, ?_⟩) hS ?_
        rotate_left 1
        · (intro w' hSw; (try dsimp only at hSw); go_simp; try (with_reducible rfl))
        try simp only [Act.put, List.setIfInBounds_toArray, List.set_cons_zero, List.set_cons_succ]
        refine wpAnyH_done (by kernel_rfl) ?_ _
        have hj1 := (hb1.cell (p := ⟨b, o, none⟩) hbb).trans hj
        have hsk : skipL x.now x.todo = j :: t := by rw [← HSK.out]; exact skip_stop hnow
        obtain ⟨hm1, hm2, hjl⟩ := made_ok HC.out.ok hsk
        have HSP := Lib.hid hsk
        have HMK := Lib.hid hm1
        have HKID := Lib.hid (HC.out.kid HN.out hsk)
        have HLV : Hid (leaves f (n + 1) x = (splitW f j (x.made j t)).flatMap (leaves f n)) := Lib.hid (leaves_step hsk)
        obtain ⟨hpk1, hpk2⟩ := parts_kids HN.out hjl
        have hb01 : Below w.heap.size w w1 := HB0.out.trans ((hbr.trans (hb1.mono hszr)).mono (by omega))
        have HPA := Lib.hid (Parts_any Af f.length cf f Ab (spans f).length cb (spans f) j w1 B B rfl rfl (HF.out.below hb01 hB) (HS.out.below hb01 hB) (Nat.le_trans hB hb01.size) (Nat.le_trans hB hb01.size) (by omega) hjl (fun h => by
          obtain ⟨h1, v, hv, h3, h4⟩ := hpk2 h
          exact ⟨h1, v, hv, h3, by omega⟩))
        rw [hpk1] at HPA
        obtain ⟨bf, of, rfl, hbf, hop0, hop1⟩ := rd_nd HF.out.rd hjl
        rw [show f[j] = f.getD j ⟨0, 0⟩ by simp [List.getD, hjl]] at hop0 hop1
        have HTD := HTT
        have hq1 := (hb1.block w.heap.size (heap_lt Q0.out)).trans Q0.out
        have hz1 := hb01.size
        have hz01 : w.heap.size < w1.heap.size := heap_lt hq1
        have HQ1 := Lib.hid hq1
        have HB1 := Lib.hid hb01
        clear hsk hm1 hm2 hpk1 hpk2 hq1 hb01 hb1 hbr hnow HIN HTT HT Q0 HSK hj k0 k1 k2 k3 HWD hbd hbd0 hxz hszr HW0 HB0 HX0 hbb
        go_wp2_with fail
        clear hif
        refine Calls.mono HPA.out ?_
        rintro e w3 ⟨rfl, hb3⟩
        have hb03 := HB1.out.trans (hb3.mono hz1)
        have hq3 := (hb3.block w.heap.size hz01).trans HQ1.out
        have hz3 := hb3.size
        obtain ⟨k0, k1, k2, k3⟩ := cell4 hq3
        have HP1 := Lib.hid (putR_any A2 (onL x.now).length c2 (onL x.now) j w3 w.heap.size rfl (HR.out.now.sl.below hb03 (Nat.le_refl _)) hb03.size (by omega))
        rw [putF_on (l := x.now) (i := j) (by rw [HC.out.ok.now]; exact hjl)] at HP1
        go_wp2_with fail
        refine Calls.mono HP1.out ?_
        rintro e w4 ⟨v4, rfl, ho4, hb4⟩
        obtain ⟨An, cn, rfl, hT4⟩ := TSl.of_own ho4
        have hb04 := hb03.trans (hb4.mono hb03.size)
        have hq4 := (hb4.block w.heap.size (by omega)).trans hq3
        have hz4 := hb4.size
        have kf3 := frozen_of_row _ _ 3 _ _ hq4
        clear k0 k1 k2 k3
        obtain ⟨k0, k1, k2, k3⟩ := cell4 hq4
        have hg46 : ¬ (w.heap.size = w4.heap.size) := by omega
        have hg64 : ¬ (w4.heap.size = w.heap.size) := by omega
        have hm4 : (onL (x.now.set j true)).length ≤ 1000 := Nat.le_trans (onL_len _) (by rw [List.length_set, HC.out.ok.now]; exact hl)
        have hc4 := hT4.sl.cap
        have hz04 : w.heap.size < w4.heap.size := by omega
        have p2 := fun v => (cell_in hq4 3 2 (by decide) v).trans k2
        have HQ4 := Lib.hid hq4
        have HB4 := Lib.hid hb04
        have HT4 := Lib.hid hT4
        clear hq3 hq4 hb03 hb04 hb3 hb4 ho4 hT4 HQ1 HP1 HPA
        go_wp2_with fail
        obtain ⟨V, hV⟩ : ∃ V, (w4.setCell ⟨w.heap.size, 3, none⟩ (.slice An (onL (x.now.set j true)).length cn)).alloc (.cells #[.int .u64 (x.need : Int), .int .u64 (x.ban : Int), .slice A1 (onL x.next).length c1, .slice An (onL (x.now.set j true)).length cn] 62) = V := ⟨_, rfl⟩
        rw [hV]
        obtain ⟨hbV, htV, hgV, hlV, hzV⟩ := later_world' HQ4.out HB4.out (Nat.le_refl _) hV.symm
        clear hV p2 k0 k1 k2 k3 kf3
        have HP2 := Lib.hid (putR_any A1 (onL x.next).length c1 (onL x.next) j V w.heap.size rfl (HR.out.next.sl.below hbV (Nat.le_refl _)) hbV.size (by omega))
        rw [putF_on (l := x.next) (i := j) (by rw [HC.out.ok.next]; exact hjl)] at HP2
        refine Calls.mono HP2.out ?_
        rintro e w5 ⟨v5, rfl, ho5, hb5⟩
        obtain ⟨Ax, cx, rfl, hT5⟩ := TSl.of_own ho5
        have hz5 := hb5.size
        have hbw5 := hbV.trans (hb5.mono hbV.size)
        have g5 := (hb5.block w.heap.size (by omega)).trans hgV
        have l5 := (hb5.block w4.heap.size (by omega)).trans hlV
        have hn5 : (onL (x.next.set j true)).length ≤ 1000 := Nat.le_trans (onL_len _) (by rw [List.length_set, HC.out.ok.next]; exact hl)
        have hc5 := hT5.sl.cap
        have m5 := (cell4 l5).2.2.1
        have fr5 := frozen_of_row _ _ 2 _ _ l5
        obtain ⟨W6, hW6⟩ : ∃ W6, w5.setCell ⟨w4.heap.size, 2, none⟩ (.slice Ax (onL (x.next.set j true)).length cx) = W6 := ⟨_, rfl⟩
        have t6 : Tch (fun k => k = w4.heap.size) w5 W6 := by rw [← hW6]; exact (Tch.refl (fun k => k = w4.heap.size) w5).setCell (p := ⟨w4.heap.size, 2, none⟩) (fun _ => rfl) _
        have g6 := t6.blk g5 (by omega)
        have l6 : W6.heap[w4.heap.size]? = some (.cells #[.int .u64 (x.need : Int), .int .u64 (x.ban : Int), .slice Ax (onL (x.next.set j true)).length cx, .slice An (onL (x.now.set j true)).length cn] 62 (0, 0)) := by rw [← hW6, heap_setCell_same _ _ 2 _ _ _ l5]; rfl
        have hb6 : Below w.heap.size w W6 := hbw5.trans (t6.below hbw5.size (fun k hk e => by omega))
        have hNX := hT5.keep t6 (spares_one l5 (by decide))
        have hNW := ((HT4.out.keep htV (spares_one HQ4.out (by decide))).below hb5).keep t6 (spares_one l5 (by decide))
        have hN1 := HR.out.next.below hb6
        have HIH : Hid (∀ (y : Way), y ∈ splitW f j (x.made j t) → ∀ (na bn : Int) (A1 : Option Addr) (n1 c1 : Nat) (A2 : Option Addr) (n2 c2 : Nat) (A3 : Option Addr) (n3 c3 : Nat) (w' : World), Below W6.heap.size W6 w' → RR w' y A1 c1 A2 c2 A3 c3 → na = (y.need : Int) → bn = (y.ban : Int) → n1 = (onL y.next).length → n2 = (onL y.now).length → n3 = y.todo.length →
            Calls Tryd.prog 38 #[.slice (some ⟨bf, of, none⟩) f.length cf, .slice Ab (spans f).length cb, .agg #[.int .u64 na, .int .u64 bn, .slice A1 n1 c1, .slice A2 n2 c2], .slice A3 n3 c3] w' (WaysPost w' ((leaves f n y).map Way.cov))) :=
          Lib.hid (fun y hy na bn A1 n1 c1 A2 n2 c2 A3 n3 c3 w' hb' hr e1 e2 e3 e4 e5 => have hbw := hb6.trans (hb'.mono hb6.size); IH.out y na bn A1 n1 c1 A2 n2 c2 A3 n3 c3 w' (HF.out.below hbw hB) (HS.out.below hbw hB) (Nat.le_trans hB hbw.size) hr (HKID.out y hy) e1 e2 e3 e4 e5)
        have HNX := Lib.hid hNX
        have HNW := Lib.hid hNW
        have HN1 := Lib.hid hN1
        have HG6 := Lib.hid g6
        have HL6 := Lib.hid l6
        have HB6 := Lib.hid hb6
        have hop6 := (hb6.cell (p := ⟨bf, of + j * 2, none⟩) (show bf < w.heap.size by omega)).trans hop0
        change W6.cell? ⟨bf, of + j * 2, none⟩ = some (.int .i64 (opAt f j)) at hop6
        have HZ6 : Hid (w.heap.size < W6.heap.size ∧ w4.heap.size < W6.heap.size ∧ w.heap.size < w4.heap.size) := Lib.hid ⟨heap_lt g6, heap_lt l6, by omega⟩
        have hlen3 : t.length ≤ 1000000 := by simp at hll; omega
        have hr3 : t.length + 2 * (n + 1) ≤ 1000000 := by have := HC.out.todo; simp at hll; omega
        have HAH1 := Lib.hid (fun (a : Nat) (w' : World) (hb : Below W6.heap.size W6 w') => ahead1_any A' t.length (c - 1) t a w' w.heap.size rfl (HTD.out.below (HB6.out.trans (hb.mono HB6.out.size)) (Nat.le_refl _)) (HB6.out.trans (hb.mono HB6.out.size)).size (by omega))
        have HAH2 := Lib.hid (fun (a b : Nat) (w' : World) (hb : Below W6.heap.size W6 w') => ahead2_any A' t.length (c - 1) t a b w' w.heap.size rfl (HTD.out.below (HB6.out.trans (hb.mono HB6.out.size)) (Nat.le_refl _)) (HB6.out.trans (hb.mono HB6.out.size)).size (by omega))
        have HT6 : Hid (∀ {A : Option Addr} {n c : Nat} {xs : List Value} {w' : World}, TSl W6 3 A n c xs → Below W6.heap.size W6 w' → TSl w' 3 A n c xs) := Lib.hid (fun h hb => h.below hb)
        have HOP := Lib.hid (ndF HN.out hjl)
        clear ho5 hb5 hT5 hbV htV hgV hlV hzV HP2 hbw5 g5 l5 t6 hNX hNW hN1 hz5 hb6 hop0 HT4 HQ4 HB4
        obtain ⟨k0, k1, k2, k3⟩ := cell4 g6
        obtain ⟨l0, l1, l2, l3⟩ := cell4 l6
        clear g6 l6 hg46 hg64
        rcases HOP.out.op with e | e | e | e | e | e | e | e | e
        · have HE := Lib.hid e
          have HSPL : Hid (splitW f j (x.made j t) = [x.made j t]) := Lib.hid (by unfold splitW; rw [e]; rfl)
          rw [e] at hop6
          have hand := and_u64' (x := x.need) (y := x.ban) (by have := HC.out.need; omega) (by have := HC.out.ban; omega)
          rw [HC.out.and0] at hand
          go_wp2_with fail
          refine Calls.mono (HIH.out (x.made j t) (by rw [HSPL.out]; simp) (x.need : Int) (x.ban : Int) A1 (onL x.next).length c1 An (onL (x.now.set j true)).length cn A' t.length (c - 1) W6 (Below.refl _ _) ⟨HN1.out, HNW.out, (HTD.out.below HB6.out (Nat.le_refl _)).up HB6.out.size⟩ rfl rfl rfl rfl rfl) ?_
          obtain ⟨T1, hT1⟩ : ∃ T, (leaves f n (x.made j t)).map Way.cov = T := ⟨_, rfl⟩
          rw [hT1]
          have HTT1 := Lib.hid hT1
          clear hT1
          rintro e w9 ⟨u9, xs9, rfl, ho9, hcv9, hb9⟩
          have H9 : Hid (WaysPost W6 T1 (.returned u9) w9) := Lib.hid ⟨u9, xs9, rfl, ho9, hcv9, hb9⟩
          clear ho9 hcv9 hb9
          go_wp2_with fail
          go_ret
          rw [HLV.out, HSPL.out]
          show WaysPost w (List.map Way.cov (leaves f n (x.made j t) ++ [])) _ _
          rw [List.append_nil, HTT1.out]
          exact ways_base HB6.out H9.out
        · have HE := Lib.hid e
          have HSPL : Hid (splitW f j (x.made j t) = []) := Lib.hid (by unfold splitW; rw [e]; rfl)
          rw [e] at hop6
          go_wp2_with fail
          go_ret
          rw [HLV.out, HSPL.out]
          exact ways_none HB6.out
        · have HE := Lib.hid e
          obtain ⟨hk, hk8⟩ := HOP.out.prop e
          have hop7 := (HB6.out.cell (p := ⟨bf, of + j * 2 + 1, none⟩) (show bf < w.heap.size by omega)).trans hop1
          rw [hk] at hop7
          have HSP0 : Hid (splitW f j (x.made j t) = finW { x.made j t with need := x.need ||| 2 ^ nAt f j }) := Lib.hid (by unfold splitW; rw [e]; rfl)
          generalize nAt f j = p at *
          clear hk hop1
          rw [e] at hop6
          have hwp := wrap_pow8 hk8
          have hp8 : 2 ^ p < 256 := by have : 2 ^ p < 2 ^ 8 := Nat.pow_lt_pow_right (by omega) hk8; omega
          have hxn := HC.out.need
          have hxb := HC.out.ban
          have hor := or_u64 (x := x.need) (y := 2 ^ p) (by omega) (by omega)
          have hlt : x.need ||| 2 ^ p < 2 ^ 8 := Nat.or_lt_two_pow (by omega) (by omega)
          have hand := and_u64' (x := x.need ||| 2 ^ p) (y := x.ban) (by omega) (by omega)
          generalize hq : 2 ^ p = q at *
          generalize hm : x.need ||| q = m at *
          have HQ := Lib.hid hq
          have HM := Lib.hid hm
          clear hq hm
          have hpw : IntKind.u64.wrap (p : Int) = (p : Int) := by rw [IntKind.wrap_u64]; omega
          have kf := frozen_of_row _ _ 0 _ _ HG6.out
          go_wp2_with fail
          refine wp_region_T (S := fun w' => w'.cell? ⟨w.heap.size, 0, none⟩ = some (.int .u64 (x.need : Int)) ∧ w'.cell? ⟨bf, of + j * 2 + 1, none⟩ = some (.int .i64 (p : Int))) 11 (by kernel_rfl) (⟨k0, hop7⟩) (fun hS => ?_)
          refine wpAnyT_takeD (i := 0) (v := ?_) rfl (by kernel_rfl) (by kernel_rfl) (by kernel_rfl) (by kernel_rfl) (fun _ _ _ h => h) (Or.inl ⟨by kernel_rfl, ?_⟩) hS ?_
          rotate_left 1
          · (intro w' hSw; (try dsimp only at hSw); go_simp; try (with_reducible rfl))
          try simp only [Act.put, List.setIfInBounds_toArray, List.set_cons_zero, List.set_cons_succ]
          refine wpAnyT_takeD (i := 1) (v := ?_) rfl (by kernel_rfl) (by kernel_rfl) (by kernel_rfl) (by kernel_rfl) (fun _ _ _ h => h) (Or.inl ⟨by kernel_rfl, ?_⟩) hS ?_
          rotate_left 1
          · (intro w' hSw; (try dsimp only at hSw); go_simp; try (with_reducible rfl))
          try simp only [Act.put, List.setIfInBounds_toArray, List.set_cons_zero, List.set_cons_succ]
          refine wpAnyT_takeD (i := 2) (v := ?_) rfl (by kernel_rfl) (by kernel_rfl) (by kernel_rfl) (by kernel_rfl) (fun _ _ _ h => h) (Or.inl ⟨by kernel_rfl, ?_⟩) hS ?_
          rotate_left 1
          · (intro w' hSw; (try dsimp only at hSw); go_simp; try (with_reducible rfl))
          try simp only [Act.put, List.setIfInBounds_toArray, List.set_cons_zero, List.set_cons_succ]
          refine wpAnyT_takeD (i := 3) (v := ?_) rfl (by kernel_rfl) (by kernel_rfl) (by kernel_rfl) (by kernel_rfl) (fun _ _ _ h => h) (Or.inl ⟨by kernel_rfl, ?_⟩) hS ?_
          rotate_left 1
          · (intro w' hSw; (try dsimp only at hSw); go_simp; try (with_reducible rfl))
          try simp only [Act.put, List.setIfInBounds_toArray, List.set_cons_zero, List.set_cons_succ]
          refine wpAnyT_takeD (i := 4) (v := ?_) rfl (by kernel_rfl) (by kernel_rfl) (by kernel_rfl) (by kernel_rfl) (fun _ _ _ h => h) (Or.inl ⟨by kernel_rfl, ?_⟩) hS ?_
          rotate_left 1
          · (intro w' hSw; (try dsimp only at hSw); go_simp; try (with_reducible rfl))
          try simp only [Act.put, List.setIfInBounds_toArray, List.set_cons_zero, List.set_cons_succ]
          refine wpAnyT_takeD (i := 5) (v := ?_) rfl (by kernel_rfl) (by kernel_rfl) (by kernel_rfl) (by kernel_rfl) (fun _ _ _ h => h) (Or.inl ⟨by kernel_rfl, ?_⟩) hS ?_
          rotate_left 1
          · (intro w' hSw; (try dsimp only at hSw); go_simp; try (with_reducible rfl))
          try simp only [Act.put, List.setIfInBounds_toArray, List.set_cons_zero, List.set_cons_succ]
          refine wpAnyT_takeD (i := 6) (v := ?_) rfl (by kernel_rfl) (by kernel_rfl) (by kernel_rfl) (by kernel_rfl) (fun _ _ _ h => h) (Or.inl ⟨by kernel_rfl, ?_⟩) hS ?_
          rotate_left 1
          · (intro w' hSw; (try dsimp only at hSw); go_simp; try (with_reducible rfl))
          try simp only [Act.put, List.setIfInBounds_toArray, List.set_cons_zero, List.set_cons_succ]
          refine wpAnyT_takeD (i := 7) (v := ?_) rfl (by kernel_rfl) (by kernel_rfl) (by kernel_rfl) (by kernel_rfl) (fun _ _ _ h => h) (Or.inl ⟨by kernel_rfl, ?_⟩) hS ?_
          rotate_left 1
          · (intro w' hSw; (try dsimp only at hSw); go_simp; try (with_reducible rfl))
          try simp only [Act.put, List.setIfInBounds_toArray, List.set_cons_zero, List.set_cons_succ]
          refine wpAnyT_takeD (i := 8) (v := ?_) rfl (by kernel_rfl) (by kernel_rfl) (by kernel_rfl) (by kernel_rfl) (fun _ _ _ h => h) (Or.inl ⟨by kernel_rfl, ?_⟩) hS ?_
          rotate_left 1
          · (intro w' hSw; (try dsimp only at hSw); go_simp; try (with_reducible rfl))
          try simp only [Act.put, List.setIfInBounds_toArray, List.set_cons_zero, List.set_cons_succ]
          refine wpAnyT_takeD (i := 9) (v := ?_) rfl (by kernel_rfl) (by kernel_rfl) (by kernel_rfl) (by kernel_rfl) (fun _ _ _ h => h) (Or.inl ⟨by kernel_rfl, ?_⟩) hS ?_
          rotate_left 1
          · (intro w' hSw; (try dsimp only at hSw); go_simp; try (with_reducible rfl))
          try simp only [Act.put, List.setIfInBounds_toArray, List.set_cons_zero, List.set_cons_succ]
          refine wpAnyT_takeD (i := 10) (v := ?_) rfl (by kernel_rfl) (by kernel_rfl) (by kernel_rfl) (by kernel_rfl) (fun _ _ _ h => h) (Or.inl ⟨by kernel_rfl, ?_⟩) hS ?_
          rotate_left 1
          · (intro w' hSw; (try dsimp only at hSw); go_simp; try (with_reducible rfl))
          try simp only [Act.put, List.setIfInBounds_toArray, List.set_cons_zero, List.set_cons_succ]
          refine wpAnyT_endD rfl (by kernel_rfl) (by kernel_rfl) (fun K hK => ?_)
          go_simp
          refine hK.out _ _ ?_
          clear hK
          obtain ⟨W8, hW8⟩ : ∃ W8, (W6.setCell ⟨w.heap.size, 0, none⟩ (.int .u64 (m : Int))).drew = W8 := ⟨_, rfl⟩
          rw [hW8]
          have t0 := (Tch.refl (fun k => k = w.heap.size) W6).setCell (p := ⟨w.heap.size, 0, none⟩) (fun _ => rfl) (.int .u64 (m : Int))
          have t8 : Tch (fun k => k = w.heap.size) W6 W8 := by rw [← hW8]; exact ⟨t0.os, t0.tape, t0.output, t0.size, t0.block⟩
          have g8 : W8.heap[w.heap.size]? = some (.cells #[.int .u64 (m : Int), .int .u64 (x.ban : Int), .slice A1 (onL x.next).length c1, .slice An (onL (x.now.set j true)).length cn] 62 (0, 0)) := by
            rw [← hW8]
            show (W6.setCell ⟨w.heap.size, 0, none⟩ (.int .u64 (m : Int))).heap[w.heap.size]? = _
            rw [heap_setCell_same _ _ 0 _ _ _ HG6.out]; rfl
          have hb68 : Below w.heap.size w W8 := HB6.out.trans (t8.below HB6.out.size (fun k hk e => by omega))
          have s7 := spares_one HG6.out (t := 3) (by decide)
          have hRR : RR W8 ({ x.made j t with need := m }) A1 c1 An cn A' (c - 1) := ⟨HN1.out.keep t8 s7, HNW.out.keep t8 s7, (HTD.out.below hb68 (Nat.le_refl _)).up hb68.size⟩
          have HRR := Lib.hid hRR
          have HB8 := Lib.hid hb68
          have HW8 := Lib.hid hW8
          obtain ⟨q0, q1, q2, q3⟩ := cell4 g8
          clear hW8 t0 t8 g8 s7 hRR hb68 k0 k1 k2 k3 l0 l1 l2 l3 hor hwp hpw hp8 hop7 kf hop6
          by_cases hz : m &&& x.ban = 0
          · have HSPL : Hid (splitW f j (x.made j t) = [{ x.made j t with need := m }]) := Lib.hid (by rw [HSP0.out]; unfold finW; exact if_pos hz)
            have HIH2 := Lib.hid (IH.out ({ x.made j t with need := m }) (m : Int) (x.ban : Int) A1 (onL x.next).length c1 An (onL (x.now.set j true)).length cn A' t.length (c - 1) W8 (HF.out.below HB8.out hB) (HS.out.below HB8.out hB) (Nat.le_trans hB HB8.out.size) HRR.out (HKID.out _ (by rw [HSPL.out]; simp)) rfl rfl rfl rfl rfl)
            rw [hz] at hand
            clear hz
            go_wp2_with fail
            refine Calls.mono HIH2.out ?_
            obtain ⟨T1, hT1⟩ : ∃ T, (leaves f n ({ x.made j t with need := m })).map Way.cov = T := ⟨_, rfl⟩
            rw [hT1]
            have HTT1 := Lib.hid hT1
            clear hT1
            rintro e w9 ⟨u9, xs9, rfl, ho9, hcv9, hb9⟩
            have H9 : Hid (WaysPost W8 T1 (.returned u9) w9) := Lib.hid ⟨u9, xs9, rfl, ho9, hcv9, hb9⟩
            clear ho9 hcv9 hb9
            go_wp2_with fail
            go_ret
            rw [HLV.out, HSPL.out]
            show WaysPost w (List.map Way.cov (leaves f n ({ x.made j t with need := m }) ++ [])) _ _
            rw [List.append_nil, HTT1.out]
            exact ways_base HB8.out H9.out
          · have HSPL : Hid (splitW f j (x.made j t) = []) := Lib.hid (by rw [HSP0.out]; unfold finW; exact if_neg hz)
            obtain ⟨zz, hzz⟩ : ∃ zz, m &&& x.ban = zz := ⟨_, rfl⟩
            rw [hzz] at hand hz
            have hne : (((zz : Nat) : Int) != 0) = true := by simpa using hz
            clear hz
            go_wp2_with fail
            go_ret
            rw [HLV.out, HSPL.out]
            exact ways_none HB8.out
        · have HE := Lib.hid e
          obtain ⟨h1j, hk, hk8⟩ := HOP.out.lit e
          obtain ⟨i, hi⟩ : ∃ i, j = i + 1 := ⟨j - 1, by omega⟩
          have hkd : kids f j = ((i : Int), -1) := by
            obtain ⟨l', r', h⟩ := node_eq (bits := fun _ _ => false) (n := 1) (lp := 0) HN.out (by omega) (at_of hjl)
            obtain ⟨a, b, _⟩ := h.kid1 (.inl e)
            obtain ⟨_, _, el⟩ := h.kid1 (.inl e)
            rw [a, show l' = i by omega]
          have HSP0 : Hid (splitW f j (x.made j t) = finW { x.made j t with ban := x.ban ||| 2 ^ nAt f (j - 1) }) := Lib.hid (by unfold splitW; rw [e]; rfl)
          rw [show j - 1 = i by omega] at hk hk8 HSP0
          obtain ⟨b', o', he, -, -, hc7⟩ := rd_nd HF.out.rd (k := i) (by omega)
          cases he
          rw [show f[i] = f.getD i ⟨0, 0⟩ by simp [List.getD, show i < f.length by omega], hk] at hc7
          have hop7 := (HB6.out.cell (p := ⟨bf, of + i * 2 + 1, none⟩) (show bf < w.heap.size by omega)).trans hc7
          have hil : i < f.length := by omega
          rw [hkd]
          have HI := Lib.hid hi
          clear hi hc7 h1j
          generalize nAt f i = p at *
          clear hk hop1
          rw [e] at hop6
          have hwp := wrap_pow8 hk8
          have hp8 : 2 ^ p < 256 := by have : 2 ^ p < 2 ^ 8 := Nat.pow_lt_pow_right (by omega) hk8; omega
          have hxn := HC.out.need
          have hxb := HC.out.ban
          have hor := or_u64 (x := x.ban) (y := 2 ^ p) (by omega) (by omega)
          have hlt : x.ban ||| 2 ^ p < 2 ^ 8 := Nat.or_lt_two_pow (by omega) (by omega)
          have hand := and_u64' (x := x.need) (y := x.ban ||| 2 ^ p) (by omega) (by omega)
          generalize hq : 2 ^ p = q at *
          generalize hm : x.ban ||| q = m at *
          have HQ := Lib.hid hq
          have HM := Lib.hid hm
          clear hq hm
          have hpw : IntKind.u64.wrap (p : Int) = (p : Int) := by rw [IntKind.wrap_u64]; omega
          have kf := frozen_of_row _ _ 1 _ _ HG6.out
          go_wp2_with fail
          refine wp_region_T (S := fun w' => w'.cell? ⟨w.heap.size, 1, none⟩ = some (.int .u64 (x.ban : Int)) ∧ w'.cell? ⟨bf, of + i * 2 + 1, none⟩ = some (.int .i64 (p : Int))) 11 (by kernel_rfl) (⟨k1, hop7⟩) (fun hS => ?_)
          refine wpAnyT_takeD (i := 0) (v := ?_) rfl (by kernel_rfl) (by kernel_rfl) (by kernel_rfl) (by kernel_rfl) (fun _ _ _ h => h) (Or.inl ⟨by kernel_rfl, ?_⟩) hS ?_
          rotate_left 1
          · (intro w' hSw; (try dsimp only at hSw); go_simp; try (with_reducible rfl))
          try simp only [Act.put, List.setIfInBounds_toArray, List.set_cons_zero, List.set_cons_succ]
          refine wpAnyT_takeD (i := 1) (v := ?_) rfl (by kernel_rfl) (by kernel_rfl) (by kernel_rfl) (by kernel_rfl) (fun _ _ _ h => h) (Or.inl ⟨by kernel_rfl, ?_⟩) hS ?_
          rotate_left 1
          · (intro w' hSw; (try dsimp only at hSw); go_simp; try (with_reducible rfl))
          try simp only [Act.put, List.setIfInBounds_toArray, List.set_cons_zero, List.set_cons_succ]
          refine wpAnyT_takeD (i := 2) (v := ?_) rfl (by kernel_rfl) (by kernel_rfl) (by kernel_rfl) (by kernel_rfl) (fun _ _ _ h => h) (Or.inl ⟨by kernel_rfl, ?_⟩) hS ?_
          rotate_left 1
          · (intro w' hSw; (try dsimp only at hSw); go_simp; try (with_reducible rfl))
          try simp only [Act.put, List.setIfInBounds_toArray, List.set_cons_zero, List.set_cons_succ]
          refine wpAnyT_takeD (i := 3) (v := ?_) rfl (by kernel_rfl) (by kernel_rfl) (by kernel_rfl) (by kernel_rfl) (fun _ _ _ h => h) (Or.inl ⟨by kernel_rfl, ?_⟩) hS ?_
          rotate_left 1
          · (intro w' hSw; (try dsimp only at hSw); go_simp; try (with_reducible rfl))
          try simp only [Act.put, List.setIfInBounds_toArray, List.set_cons_zero, List.set_cons_succ]
          refine wpAnyT_takeD (i := 4) (v := ?_) rfl (by kernel_rfl) (by kernel_rfl) (by kernel_rfl) (by kernel_rfl) (fun _ _ _ h => h) (Or.inl ⟨by kernel_rfl, ?_⟩) hS ?_
          rotate_left 1
          · (intro w' hSw; (try dsimp only at hSw); go_simp; try (with_reducible rfl))
          try simp only [Act.put, List.setIfInBounds_toArray, List.set_cons_zero, List.set_cons_succ]
          refine wpAnyT_takeD (i := 5) (v := ?_) rfl (by kernel_rfl) (by kernel_rfl) (by kernel_rfl) (by kernel_rfl) (fun _ _ _ h => h) (Or.inl ⟨by kernel_rfl, ?_⟩) hS ?_
          rotate_left 1
          · (intro w' hSw; (try dsimp only at hSw); go_simp; try (with_reducible rfl))
          try simp only [Act.put, List.setIfInBounds_toArray, List.set_cons_zero, List.set_cons_succ]
          refine wpAnyT_takeD (i := 6) (v := ?_) rfl (by kernel_rfl) (by kernel_rfl) (by kernel_rfl) (by kernel_rfl) (fun _ _ _ h => h) (Or.inl ⟨by kernel_rfl, ?_⟩) hS ?_
          rotate_left 1
          · (intro w' hSw; (try dsimp only at hSw); go_simp; try (with_reducible rfl))
          try simp only [Act.put, List.setIfInBounds_toArray, List.set_cons_zero, List.set_cons_succ]
          refine wpAnyT_takeD (i := 7) (v := ?_) rfl (by kernel_rfl) (by kernel_rfl) (by kernel_rfl) (by kernel_rfl) (fun _ _ _ h => h) (Or.inl ⟨by kernel_rfl, ?_⟩) hS ?_
          rotate_left 1
          · (intro w' hSw; (try dsimp only at hSw); go_simp; try (with_reducible rfl))
          try simp only [Act.put, List.setIfInBounds_toArray, List.set_cons_zero, List.set_cons_succ]
          refine wpAnyT_takeD (i := 8) (v := ?_) rfl (by kernel_rfl) (by kernel_rfl) (by kernel_rfl) (by kernel_rfl) (fun _ _ _ h => h) (Or.inl ⟨by kernel_rfl, ?_⟩) hS ?_
          rotate_left 1
          · (intro w' hSw; (try dsimp only at hSw); go_simp; try (with_reducible rfl))
          try simp only [Act.put, List.setIfInBounds_toArray, List.set_cons_zero, List.set_cons_succ]
          refine wpAnyT_takeD (i := 9) (v := ?_) rfl (by kernel_rfl) (by kernel_rfl) (by kernel_rfl) (by kernel_rfl) (fun _ _ _ h => h) (Or.inl ⟨by kernel_rfl, ?_⟩) hS ?_
          rotate_left 1
          · (intro w' hSw; (try dsimp only at hSw); go_simp; try (with_reducible rfl))
          try simp only [Act.put, List.setIfInBounds_toArray, List.set_cons_zero, List.set_cons_succ]
          refine wpAnyT_takeD (i := 10) (v := ?_) rfl (by kernel_rfl) (by kernel_rfl) (by kernel_rfl) (by kernel_rfl) (fun _ _ _ h => h) (Or.inl ⟨by kernel_rfl, ?_⟩) hS ?_
          rotate_left 1
          · (intro w' hSw; (try dsimp only at hSw); go_simp; try (with_reducible rfl))
          try simp only [Act.put, List.setIfInBounds_toArray, List.set_cons_zero, List.set_cons_succ]
          refine wpAnyT_endD rfl (by kernel_rfl) (by kernel_rfl) (fun K hK => ?_)
          go_simp
          refine hK.out _ _ ?_
          clear hK
          obtain ⟨W8, hW8⟩ : ∃ W8, (W6.setCell ⟨w.heap.size, 1, none⟩ (.int .u64 (m : Int))).drew = W8 := ⟨_, rfl⟩
          rw [hW8]
          have t0 := (Tch.refl (fun k => k = w.heap.size) W6).setCell (p := ⟨w.heap.size, 1, none⟩) (fun _ => rfl) (.int .u64 (m : Int))
          have t8 : Tch (fun k => k = w.heap.size) W6 W8 := by rw [← hW8]; exact ⟨t0.os, t0.tape, t0.output, t0.size, t0.block⟩
          have g8 : W8.heap[w.heap.size]? = some (.cells #[.int .u64 (x.need : Int), .int .u64 (m : Int), .slice A1 (onL x.next).length c1, .slice An (onL (x.now.set j true)).length cn] 62 (0, 0)) := by
            rw [← hW8]
            show (W6.setCell ⟨w.heap.size, 1, none⟩ (.int .u64 (m : Int))).heap[w.heap.size]? = _
            rw [heap_setCell_same _ _ 1 _ _ _ HG6.out]; rfl
          have hb68 : Below w.heap.size w W8 := HB6.out.trans (t8.below HB6.out.size (fun k hk e => by omega))
          have s7 := spares_one HG6.out (t := 3) (by decide)
          have hRR : RR W8 ({ x.made j t with ban := m }) A1 c1 An cn A' (c - 1) := ⟨HN1.out.keep t8 s7, HNW.out.keep t8 s7, (HTD.out.below hb68 (Nat.le_refl _)).up hb68.size⟩
          have HRR := Lib.hid hRR
          have HB8 := Lib.hid hb68
          have HW8 := Lib.hid hW8
          obtain ⟨q0, q1, q2, q3⟩ := cell4 g8
          clear hW8 t0 t8 g8 s7 hRR hb68 k0 k1 k2 k3 l0 l1 l2 l3 hor hwp hpw hp8 hop7 kf hop6
          by_cases hz : x.need &&& m = 0
          · have HSPL : Hid (splitW f j (x.made j t) = [{ x.made j t with ban := m }]) := Lib.hid (by rw [HSP0.out]; unfold finW; exact if_pos hz)
            have HIH2 := Lib.hid (IH.out ({ x.made j t with ban := m }) (x.need : Int) (m : Int) A1 (onL x.next).length c1 An (onL (x.now.set j true)).length cn A' t.length (c - 1) W8 (HF.out.below HB8.out hB) (HS.out.below HB8.out hB) (Nat.le_trans hB HB8.out.size) HRR.out (HKID.out _ (by rw [HSPL.out]; simp)) rfl rfl rfl rfl rfl)
            rw [hz] at hand
            clear hz
            go_wp2_with fail
            refine Calls.mono HIH2.out ?_
            obtain ⟨T1, hT1⟩ : ∃ T, (leaves f n ({ x.made j t with ban := m })).map Way.cov = T := ⟨_, rfl⟩
            rw [hT1]
            have HTT1 := Lib.hid hT1
            clear hT1
            rintro e w9 ⟨u9, xs9, rfl, ho9, hcv9, hb9⟩
            have H9 : Hid (WaysPost W8 T1 (.returned u9) w9) := Lib.hid ⟨u9, xs9, rfl, ho9, hcv9, hb9⟩
            clear ho9 hcv9 hb9
            go_wp2_with fail
            go_ret
            rw [HLV.out, HSPL.out]
            show WaysPost w (List.map Way.cov (leaves f n ({ x.made j t with ban := m }) ++ [])) _ _
            rw [List.append_nil, HTT1.out]
            exact ways_base HB8.out H9.out
          · have HSPL : Hid (splitW f j (x.made j t) = []) := Lib.hid (by rw [HSP0.out]; unfold finW; exact if_neg hz)
            obtain ⟨zz, hzz⟩ : ∃ zz, x.need &&& m = zz := ⟨_, rfl⟩
            rw [hzz] at hand hz
            have hne : (((zz : Nat) : Int) != 0) = true := by simpa using hz
            clear hz
            go_wp2_with fail
            go_ret
            rw [HLV.out, HSPL.out]
            exact ways_none HB8.out
        · have HE := Lib.hid e
          have HSPL : Hid (splitW f j (x.made j t) = [(x.made j t).with_ [leftOf f j, rightOf f j]]) := Lib.hid (by unfold splitW; rw [e]; rfl)
          obtain ⟨hkd, hL, hRt⟩ := HOP.out.kid2 (by rw [e]; decide)
          generalize leftOf f j = L at *
          generalize rightOf f j = R at *
          rw [hkd]
          rw [e] at hop6
          obtain ⟨wd1, hwd1⟩ : ∃ wd, W6.drew = wd := ⟨_, rfl⟩
          have hbc1 : Below W6.heap.size W6 wd1 := by rw [← hwd1]; exact (Below.refl _ _).drew
          have hbd1 : Below W6.heap.size W6 wd1 := hbc1
          have HWD1 := Lib.hid hwd1
          clear hwd1
          go_wp2_with fail
          refine wp_region_held_drew (S := fun w' => w'.cell? ⟨w.heap.size, 0, none⟩ = some (.int .u64 (x.need : Int)) ∧ w'.cell? ⟨w.heap.size, 1, none⟩ = some (.int .u64 (x.ban : Int)) ∧ w'.cell? ⟨w.heap.size, 2, none⟩ = some (.slice A1 (onL x.next).length c1) ∧ w'.cell? ⟨w.heap.size, 3, none⟩ = some (.slice An (onL (x.now.set j true)).length cn)) (by kernel_rfl) ⟨k0, k1, k2, k3⟩ (fun hS => ?_)
          refine wpAnyH_takeD (i := 0) (v := ?_) rfl (by kernel_rfl) (by kernel_rfl) (by kernel_rfl) (fun _ _ _ h => h) (Or.inl ⟨by kernel_rfl, ?_⟩) hS ?_
          rotate_left 1
          · (intro w' hSw; (try dsimp only at hSw); go_simp; try (with_reducible rfl))
          try simp only [Act.put, List.setIfInBounds_toArray, List.set_cons_zero, List.set_cons_succ]
          refine wpAnyH_takeD (i := 1) (v := ?_) rfl (by kernel_rfl) (by kernel_rfl) (by kernel_rfl) (fun _ _ _ h => h) (Or.inl ⟨by kernel_rfl, ?_⟩) hS ?_
          rotate_left 1
          · (intro w' hSw; (try dsimp only at hSw); go_simp; try (with_reducible rfl))
          try simp only [Act.put, List.setIfInBounds_toArray, List.set_cons_zero, List.set_cons_succ]
          refine wpAnyH_takeD (i := 2) (v := ?_) rfl (by kernel_rfl) (by kernel_rfl) (by kernel_rfl) (fun _ _ _ h => h) (Or.inl ⟨by kernel_rfl, ?_⟩) hS ?_
          rotate_left 1
          · (intro w' hSw; (try dsimp only at hSw); go_simp; try (with_reducible rfl))
          try simp only [Act.put, List.setIfInBounds_toArray, List.set_cons_zero, List.set_cons_succ]
          refine wpAnyH_takeD (i := 3) (v := ?_) rfl (by kernel_rfl) (by kernel_rfl) (by kernel_rfl) (fun _ _ _ h => h) (Or.inl ⟨by kernel_rfl, ?_⟩) hS ?_
          rotate_left 1
          · (intro w' hSw; (try dsimp only at hSw); go_simp; try (with_reducible rfl))
          try simp only [Act.put, List.setIfInBounds_toArray, List.set_cons_zero, List.set_cons_succ]
          refine wpAnyH_takeD (i := 4) (v := ?_) rfl (by kernel_rfl) (by kernel_rfl) (by kernel_rfl) (fun _ _ _ h => h) (Or.inl ⟨by kernel_rfl, ?_⟩) hS ?_
          rotate_left 1
          · (intro w' hSw; (try dsimp only at hSw); go_simp; try (with_reducible rfl))
          try simp only [Act.put, List.setIfInBounds_toArray, List.set_cons_zero, List.set_cons_succ]
          refine wpAnyH_takeD (i := 5) (v := ?_) rfl (by kernel_rfl) (by kernel_rfl) (by kernel_rfl) (fun _ _ _ h => h) (Or.inl ⟨by kernel_rfl, ?_⟩) hS ?_
          rotate_left 1
          · (intro w' hSw; (try dsimp only at hSw); go_simp; try (with_reducible rfl))
          try simp only [Act.put, List.setIfInBounds_toArray, List.set_cons_zero, List.set_cons_succ]
          refine wpAnyH_oneD (i := 6) rfl (by kernel_rfl) (fun K hK => ?_)
          go_simp
          rw [HWD1.out]
          refine Calls.mono (HAH2.out L R wd1 hbd1) ?_
          rintro e w1a ⟨v1, rfl, ho1, hb1⟩
          obtain ⟨At1, ct1, rfl, hT1⟩ := TSl.of_own ho1
          have hc1 := hbd1.trans (hb1.mono hbd1.size)
          have hf1 := hbc1.trans (hb1.mono hbc1.size)
          clear ho1 hb1
          have hRR1 : RR w1a ((x.made j t).with_ [L, R]) A1 c1 An cn At1 ct1 := ⟨HT6.out HN1.out hc1, HT6.out HNW.out hc1, hT1.sl⟩
          obtain ⟨m1, hm1⟩ : ∃ m, (L :: R :: t).length = m := ⟨_, rfl⟩
          rw [hm1]
          have HM1 : Hid (m1 = ((x.made j t).with_ [L, R]).todo.length) := Lib.hid hm1.symm
          have HRR1 := Lib.hid hRR1
          clear hm1 hRR1 hT1
          dsimp only
          refine hK.out _ _ ⟨(hc1.cell (p := ⟨w.heap.size, 0, none⟩) HZ6.out.1).trans k0, (hc1.cell (p := ⟨w.heap.size, 1, none⟩) HZ6.out.1).trans k1, (hc1.cell (p := ⟨w.heap.size, 2, none⟩) HZ6.out.1).trans k2, (hc1.cell (p := ⟨w.heap.size, 3, none⟩) HZ6.out.1).trans k3⟩ (fun hS => ?_)
          clear hK
          try simp only [Act.put, List.setIfInBounds_toArray, List.set_cons_zero, List.set_cons_succ]
          refine wpAnyH_oneD (i := 7) rfl (by kernel_rfl) (fun K hK => ?_)
          go_simp
          refine Calls.mono (HIH.out ((x.made j t).with_ [L, R]) (by rw [HSPL.out]; simp) (x.need : Int) (x.ban : Int) A1 (onL x.next).length c1 An (onL (x.now.set j true)).length cn At1 m1 ct1 w1a hc1 HRR1.out rfl rfl rfl rfl HM1.out) ?_
          obtain ⟨T1, hT1⟩ : ∃ T, (leaves f n ((x.made j t).with_ [L, R])).map Way.cov = T := ⟨_, rfl⟩
          rw [hT1]
          have HTT1 := Lib.hid hT1
          clear hT1
          rintro e w1b ⟨u1, xs1, rfl, ho1, hcv1, hb1⟩
          have hd1 := hc1.trans (hb1.mono hc1.size)
          have hg1 := hf1.trans (hb1.mono hf1.size)
          have H1 : Hid (WaysPost w1a T1 (.returned u1) w1b) := Lib.hid ⟨u1, xs1, rfl, ho1, hcv1, hb1⟩
          clear ho1 hcv1 hb1
          dsimp only
          refine hK.out _ _ ⟨(hd1.cell (p := ⟨w.heap.size, 0, none⟩) HZ6.out.1).trans k0, (hd1.cell (p := ⟨w.heap.size, 1, none⟩) HZ6.out.1).trans k1, (hd1.cell (p := ⟨w.heap.size, 2, none⟩) HZ6.out.1).trans k2, (hd1.cell (p := ⟨w.heap.size, 3, none⟩) HZ6.out.1).trans k3⟩ (fun hS => ?_)
          clear hK
          try simp only [Act.put, List.setIfInBounds_toArray, List.set_cons_zero, List.set_cons_succ]
          refine wpAnyH_takeD (i := 8) (v := ?_) rfl (by kernel_rfl) (by kernel_rfl) (by kernel_rfl) (fun _ _ _ h => h) (Or.inl ⟨by kernel_rfl, ?_⟩) hS ?_
          rotate_left 1
          · (intro w' hSw; (try dsimp only at hSw); go_simp; try (with_reducible rfl))
          try simp only [Act.put, List.setIfInBounds_toArray, List.set_cons_zero, List.set_cons_succ]
          refine wpAnyH_done (by kernel_rfl) ?_ _
          go_wp2_with fail
          go_ret
          rw [HLV.out, HSPL.out]
          show WaysPost w (List.map Way.cov (leaves f n ((x.made j t).with_ [L, R]) ++ [])) _ _
          rw [List.append_nil, HTT1.out]
          exact ways_base (HB6.out.trans (hc1.mono HB6.out.size)) H1.out
        · have HE := Lib.hid e
          have HSPL : Hid (splitW f j (x.made j t) = [(x.made j t).with_ [leftOf f j], (x.made j t).with_ [rightOf f j]]) := Lib.hid (by unfold splitW; rw [e]; rfl)
          obtain ⟨hkd, hL, hRt⟩ := HOP.out.kid2 (by rw [e]; decide)
          generalize leftOf f j = L at *
          generalize rightOf f j = R at *
          rw [hkd]
          rw [e] at hop6
          obtain ⟨wd1, hwd1⟩ : ∃ wd, W6.drew = wd := ⟨_, rfl⟩
          have hbc1 : Below W6.heap.size W6 wd1 := by rw [← hwd1]; exact (Below.refl _ _).drew
          have hbd1 : Below W6.heap.size W6 wd1 := hbc1
          have HWD1 := Lib.hid hwd1
          clear hwd1
          go_wp2_with fail
          refine wp_region_held_drew (S := fun w' => w'.cell? ⟨w.heap.size, 0, none⟩ = some (.int .u64 (x.need : Int)) ∧ w'.cell? ⟨w.heap.size, 1, none⟩ = some (.int .u64 (x.ban : Int)) ∧ w'.cell? ⟨w.heap.size, 2, none⟩ = some (.slice A1 (onL x.next).length c1) ∧ w'.cell? ⟨w.heap.size, 3, none⟩ = some (.slice An (onL (x.now.set j true)).length cn)) (by kernel_rfl) ⟨k0, k1, k2, k3⟩ (fun hS => ?_)
          refine wpAnyH_takeD (i := 0) (v := ?_) rfl (by kernel_rfl) (by kernel_rfl) (by kernel_rfl) (fun _ _ _ h => h) (Or.inl ⟨by kernel_rfl, ?_⟩) hS ?_
          rotate_left 1
          · (intro w' hSw; (try dsimp only at hSw); go_simp; try (with_reducible rfl))
          try simp only [Act.put, List.setIfInBounds_toArray, List.set_cons_zero, List.set_cons_succ]
          refine wpAnyH_takeD (i := 1) (v := ?_) rfl (by kernel_rfl) (by kernel_rfl) (by kernel_rfl) (fun _ _ _ h => h) (Or.inl ⟨by kernel_rfl, ?_⟩) hS ?_
          rotate_left 1
          · (intro w' hSw; (try dsimp only at hSw); go_simp; try (with_reducible rfl))
          try simp only [Act.put, List.setIfInBounds_toArray, List.set_cons_zero, List.set_cons_succ]
          refine wpAnyH_takeD (i := 2) (v := ?_) rfl (by kernel_rfl) (by kernel_rfl) (by kernel_rfl) (fun _ _ _ h => h) (Or.inl ⟨by kernel_rfl, ?_⟩) hS ?_
          rotate_left 1
          · (intro w' hSw; (try dsimp only at hSw); go_simp; try (with_reducible rfl))
          try simp only [Act.put, List.setIfInBounds_toArray, List.set_cons_zero, List.set_cons_succ]
          refine wpAnyH_takeD (i := 3) (v := ?_) rfl (by kernel_rfl) (by kernel_rfl) (by kernel_rfl) (fun _ _ _ h => h) (Or.inl ⟨by kernel_rfl, ?_⟩) hS ?_
          rotate_left 1
          · (intro w' hSw; (try dsimp only at hSw); go_simp; try (with_reducible rfl))
          try simp only [Act.put, List.setIfInBounds_toArray, List.set_cons_zero, List.set_cons_succ]
          refine wpAnyH_takeD (i := 4) (v := ?_) rfl (by kernel_rfl) (by kernel_rfl) (by kernel_rfl) (fun _ _ _ h => h) (Or.inl ⟨by kernel_rfl, ?_⟩) hS ?_
          rotate_left 1
          · (intro w' hSw; (try dsimp only at hSw); go_simp; try (with_reducible rfl))
          try simp only [Act.put, List.setIfInBounds_toArray, List.set_cons_zero, List.set_cons_succ]
          refine wpAnyH_oneD (i := 5) rfl (by kernel_rfl) (fun K hK => ?_)
          go_simp
          rw [HWD1.out]
          refine Calls.mono (HAH1.out L wd1 hbd1) ?_
          rintro e w1a ⟨v1, rfl, ho1, hb1⟩
          obtain ⟨At1, ct1, rfl, hT1⟩ := TSl.of_own ho1
          have hc1 := hbd1.trans (hb1.mono hbd1.size)
          have hf1 := hbc1.trans (hb1.mono hbc1.size)
          clear ho1 hb1
          have hRR1 : RR w1a ((x.made j t).with_ [L]) A1 c1 An cn At1 ct1 := ⟨HT6.out HN1.out hc1, HT6.out HNW.out hc1, hT1.sl⟩
          obtain ⟨m1, hm1⟩ : ∃ m, (L :: t).length = m := ⟨_, rfl⟩
          rw [hm1]
          have HM1 : Hid (m1 = ((x.made j t).with_ [L]).todo.length) := Lib.hid hm1.symm
          have HRR1 := Lib.hid hRR1
          clear hm1 hRR1 hT1
          dsimp only
          refine hK.out _ _ ⟨(hc1.cell (p := ⟨w.heap.size, 0, none⟩) HZ6.out.1).trans k0, (hc1.cell (p := ⟨w.heap.size, 1, none⟩) HZ6.out.1).trans k1, (hc1.cell (p := ⟨w.heap.size, 2, none⟩) HZ6.out.1).trans k2, (hc1.cell (p := ⟨w.heap.size, 3, none⟩) HZ6.out.1).trans k3⟩ (fun hS => ?_)
          clear hK
          try simp only [Act.put, List.setIfInBounds_toArray, List.set_cons_zero, List.set_cons_succ]
          refine wpAnyH_oneD (i := 6) rfl (by kernel_rfl) (fun K hK => ?_)
          go_simp
          refine Calls.mono (HIH.out ((x.made j t).with_ [L]) (by rw [HSPL.out]; simp) (x.need : Int) (x.ban : Int) A1 (onL x.next).length c1 An (onL (x.now.set j true)).length cn At1 m1 ct1 w1a hc1 HRR1.out rfl rfl rfl rfl HM1.out) ?_
          obtain ⟨T1, hT1⟩ : ∃ T, (leaves f n ((x.made j t).with_ [L])).map Way.cov = T := ⟨_, rfl⟩
          rw [hT1]
          have HTT1 := Lib.hid hT1
          clear hT1
          rintro e w1b ⟨u1, xs1, rfl, ho1, hcv1, hb1⟩
          have hd1 := hc1.trans (hb1.mono hc1.size)
          have hg1 := hf1.trans (hb1.mono hf1.size)
          have H1 : Hid (WaysPost w1a T1 (.returned u1) w1b) := Lib.hid ⟨u1, xs1, rfl, ho1, hcv1, hb1⟩
          clear ho1 hcv1 hb1
          dsimp only
          refine hK.out _ _ ⟨(hd1.cell (p := ⟨w.heap.size, 0, none⟩) HZ6.out.1).trans k0, (hd1.cell (p := ⟨w.heap.size, 1, none⟩) HZ6.out.1).trans k1, (hd1.cell (p := ⟨w.heap.size, 2, none⟩) HZ6.out.1).trans k2, (hd1.cell (p := ⟨w.heap.size, 3, none⟩) HZ6.out.1).trans k3⟩ (fun hS => ?_)
          clear hK
          try simp only [Act.put, List.setIfInBounds_toArray, List.set_cons_zero, List.set_cons_succ]
          refine wpAnyH_takeD (i := 7) (v := ?_) rfl (by kernel_rfl) (by kernel_rfl) (by kernel_rfl) (fun _ _ _ h => h) (Or.inl ⟨by kernel_rfl, ?_⟩) hS ?_
          rotate_left 1
          · (intro w' hSw; (try dsimp only at hSw); go_simp; try (with_reducible rfl))
          try simp only [Act.put, List.setIfInBounds_toArray, List.set_cons_zero, List.set_cons_succ]
          refine wpAnyH_done (by kernel_rfl) ?_ _
          obtain ⟨wd2, hwd2⟩ : ∃ wd, w1b.drew = wd := ⟨_, rfl⟩
          have hbc2 : Below w1b.heap.size w1b wd2 := by rw [← hwd2]; exact (Below.refl _ _).drew
          have hbd2 : Below W6.heap.size W6 wd2 := hd1.trans (hbc2.mono hd1.size)
          have HWD2 := Lib.hid hwd2
          clear hwd2
          go_wp2_with fail
          refine wp_region_held_drew (S := fun w' => w'.cell? ⟨w.heap.size, 0, none⟩ = some (.int .u64 (x.need : Int)) ∧ w'.cell? ⟨w.heap.size, 1, none⟩ = some (.int .u64 (x.ban : Int)) ∧ w'.cell? ⟨w.heap.size, 2, none⟩ = some (.slice A1 (onL x.next).length c1) ∧ w'.cell? ⟨w.heap.size, 3, none⟩ = some (.slice An (onL (x.now.set j true)).length cn)) (by kernel_rfl) ⟨(hd1.cell (p := ⟨w.heap.size, 0, none⟩) HZ6.out.1).trans k0, (hd1.cell (p := ⟨w.heap.size, 1, none⟩) HZ6.out.1).trans k1, (hd1.cell (p := ⟨w.heap.size, 2, none⟩) HZ6.out.1).trans k2, (hd1.cell (p := ⟨w.heap.size, 3, none⟩) HZ6.out.1).trans k3⟩ (fun hS => ?_)
          refine wpAnyH_takeD (i := 0) (v := ?_) rfl (by kernel_rfl) (by kernel_rfl) (by kernel_rfl) (fun _ _ _ h => h) (Or.inl ⟨by kernel_rfl, ?_⟩) hS ?_
          rotate_left 1
          · (intro w' hSw; (try dsimp only at hSw); go_simp; try (with_reducible rfl))
          try simp only [Act.put, List.setIfInBounds_toArray, List.set_cons_zero, List.set_cons_succ]
          refine wpAnyH_takeD (i := 1) (v := ?_) rfl (by kernel_rfl) (by kernel_rfl) (by kernel_rfl) (fun _ _ _ h => h) (Or.inl ⟨by kernel_rfl, ?_⟩) hS ?_
          rotate_left 1
          · (intro w' hSw; (try dsimp only at hSw); go_simp; try (with_reducible rfl))
          try simp only [Act.put, List.setIfInBounds_toArray, List.set_cons_zero, List.set_cons_succ]
          refine wpAnyH_takeD (i := 2) (v := ?_) rfl (by kernel_rfl) (by kernel_rfl) (by kernel_rfl) (fun _ _ _ h => h) (Or.inl ⟨by kernel_rfl, ?_⟩) hS ?_
          rotate_left 1
          · (intro w' hSw; (try dsimp only at hSw); go_simp; try (with_reducible rfl))
          try simp only [Act.put, List.setIfInBounds_toArray, List.set_cons_zero, List.set_cons_succ]
          refine wpAnyH_takeD (i := 3) (v := ?_) rfl (by kernel_rfl) (by kernel_rfl) (by kernel_rfl) (fun _ _ _ h => h) (Or.inl ⟨by kernel_rfl, ?_⟩) hS ?_
          rotate_left 1
          · (intro w' hSw; (try dsimp only at hSw); go_simp; try (with_reducible rfl))
          try simp only [Act.put, List.setIfInBounds_toArray, List.set_cons_zero, List.set_cons_succ]
          refine wpAnyH_takeD (i := 4) (v := ?_) rfl (by kernel_rfl) (by kernel_rfl) (by kernel_rfl) (fun _ _ _ h => h) (Or.inl ⟨by kernel_rfl, ?_⟩) hS ?_
          rotate_left 1
          · (intro w' hSw; (try dsimp only at hSw); go_simp; try (with_reducible rfl))
          try simp only [Act.put, List.setIfInBounds_toArray, List.set_cons_zero, List.set_cons_succ]
          refine wpAnyH_oneD (i := 5) rfl (by kernel_rfl) (fun K hK => ?_)
          go_simp
          rw [HWD2.out]
          refine Calls.mono (HAH1.out R wd2 hbd2) ?_
          rintro e w2a ⟨v2, rfl, ho2, hb2⟩
          obtain ⟨At2, ct2, rfl, hT2⟩ := TSl.of_own ho2
          have hc2 := hbd2.trans (hb2.mono hbd2.size)
          have hf2 := hbc2.trans (hb2.mono hbc2.size)
          clear ho2 hb2
          have hRR2 : RR w2a ((x.made j t).with_ [R]) A1 c1 An cn At2 ct2 := ⟨HT6.out HN1.out hc2, HT6.out HNW.out hc2, hT2.sl⟩
          obtain ⟨m2, hm2⟩ : ∃ m, (R :: t).length = m := ⟨_, rfl⟩
          rw [hm2]
          have HM2 : Hid (m2 = ((x.made j t).with_ [R]).todo.length) := Lib.hid hm2.symm
          have HRR2 := Lib.hid hRR2
          clear hm2 hRR2 hT2
          dsimp only
          refine hK.out _ _ ⟨(hc2.cell (p := ⟨w.heap.size, 0, none⟩) HZ6.out.1).trans k0, (hc2.cell (p := ⟨w.heap.size, 1, none⟩) HZ6.out.1).trans k1, (hc2.cell (p := ⟨w.heap.size, 2, none⟩) HZ6.out.1).trans k2, (hc2.cell (p := ⟨w.heap.size, 3, none⟩) HZ6.out.1).trans k3⟩ (fun hS => ?_)
          clear hK
          try simp only [Act.put, List.setIfInBounds_toArray, List.set_cons_zero, List.set_cons_succ]
          refine wpAnyH_oneD (i := 6) rfl (by kernel_rfl) (fun K hK => ?_)
          go_simp
          refine Calls.mono (HIH.out ((x.made j t).with_ [R]) (by rw [HSPL.out]; simp) (x.need : Int) (x.ban : Int) A1 (onL x.next).length c1 An (onL (x.now.set j true)).length cn At2 m2 ct2 w2a hc2 HRR2.out rfl rfl rfl rfl HM2.out) ?_
          obtain ⟨T2, hT2⟩ : ∃ T, (leaves f n ((x.made j t).with_ [R])).map Way.cov = T := ⟨_, rfl⟩
          rw [hT2]
          have HTT2 := Lib.hid hT2
          clear hT2
          rintro e w2b ⟨u2, xs2, rfl, ho2, hcv2, hb2⟩
          have hd2 := hc2.trans (hb2.mono hc2.size)
          have hg2 := hf2.trans (hb2.mono hf2.size)
          have H2 : Hid (WaysPost w2a T2 (.returned u2) w2b) := Lib.hid ⟨u2, xs2, rfl, ho2, hcv2, hb2⟩
          clear ho2 hcv2 hb2
          dsimp only
          refine hK.out _ _ ⟨(hd2.cell (p := ⟨w.heap.size, 0, none⟩) HZ6.out.1).trans k0, (hd2.cell (p := ⟨w.heap.size, 1, none⟩) HZ6.out.1).trans k1, (hd2.cell (p := ⟨w.heap.size, 2, none⟩) HZ6.out.1).trans k2, (hd2.cell (p := ⟨w.heap.size, 3, none⟩) HZ6.out.1).trans k3⟩ (fun hS => ?_)
          clear hK
          try simp only [Act.put, List.setIfInBounds_toArray, List.set_cons_zero, List.set_cons_succ]
          refine wpAnyH_takeD (i := 7) (v := ?_) rfl (by kernel_rfl) (by kernel_rfl) (by kernel_rfl) (fun _ _ _ h => h) (Or.inl ⟨by kernel_rfl, ?_⟩) hS ?_
          rotate_left 1
          · (intro w' hSw; (try dsimp only at hSw); go_simp; try (with_reducible rfl))
          try simp only [Act.put, List.setIfInBounds_toArray, List.set_cons_zero, List.set_cons_succ]
          refine wpAnyH_done (by kernel_rfl) ?_ _
          obtain ⟨u1', xs1, e1', ho1, hcv1, hb1⟩ := H1.out
          cases e1'
          obtain ⟨u2', xs2, e2', ho2, hcv2, hb2⟩ := H2.out
          cases e2'
          obtain ⟨Au, cu, hu2, hsu⟩ := own_sl ho2
          subst hu2
          have hlT : T1.length + T2.length ≤ 1000000 := by
            have hal := HC.out.all
            rw [HLV.out, HSPL.out] at hal
            change (leaves f n ((x.made j t).with_ [L]) ++ (leaves f n ((x.made j t).with_ [R]) ++ [])).length ≤ _ at hal
            rw [List.append_nil, List.length_append] at hal
            rw [← HTT1.out, ← HTT2.out, List.length_map, List.length_map]; exact hal
          have ho1' := own_base (own_below ho1 hg2) (show w.heap.size ≤ w1a.heap.size from Nat.le_trans (Nat.le_trans HB6.out.size hc1.size) (Nat.le_refl _))
          have hcv1' := hcv1.keep (Tch.of_below hg2) (spares_new _ _)
          have hw2 := HB6.out.trans (hd2.mono HB6.out.size)
          have h1x := hcv2.one' ho2.1
          have HO1 := Lib.hid ho1'
          have HSU := Lib.hid hsu
          have hwz := hw2.size
          clear ho1 hcv1 hb1 ho2 hb2 k0 k1 k2 k3 l0 l1 l2 l3
          clear hsu ho1' hS
          go_wp2_with (at_builtin
                       refine wpList_extend rfl (.tmp 119) (.tmp 120) 58 rfl w.heap.size 62 4 64 sliceCovR _ _ _ HO1.out rfl w2b.heap.size Au T2.length cu xs2 rfl HSU.out h1x (by omega) (by omega) hwz ?_
                       intro v9 w9 hown9 ht9 hat9 hne9)
          go_ret
          rw [HLV.out, HSPL.out]
          show WaysPost w (List.map Way.cov (leaves f n ((x.made j t).with_ [L]) ++ (leaves f n ((x.made j t).with_ [R]) ++ []))) _ _
          rw [List.append_nil, List.map_append, HTT1.out, HTT2.out]
          exact ways_join hw2 HO1.out hcv1' hcv2 hown9 rfl rfl ht9
        · have HE := Lib.hid e
          have HSPL : Hid (splitW f j (x.made j t) = [(x.made j t).owing (leftOf f j)]) := Lib.hid (by unfold splitW; rw [e]; rfl)
          obtain ⟨hkd, hL⟩ := HOP.out.kid1 e
          generalize leftOf f j = L at *
          rw [hkd]
          rw [e] at hop6
          have hand := and_u64' (x := x.need) (y := x.ban) (by have := HC.out.need; omega) (by have := HC.out.ban; omega)
          rw [HC.out.and0] at hand
          have HP := Lib.hid (putR_any A1 (onL x.next).length c1 (onL x.next) L W6 w.heap.size rfl (HR.out.next.sl.below HB6.out (Nat.le_refl _)) HB6.out.size (by omega))
          rw [putF_on (l := x.next) (i := L) (by rw [HC.out.ok.next]; omega)] at HP
          go_wp2_with fail
          refine Calls.mono HP.out ?_
          rintro e w7 ⟨v7, rfl, ho7, hb7⟩
          obtain ⟨Ap, cp, rfl, hT7⟩ := TSl.of_own ho7
          have g7 := (hb7.block w.heap.size HZ6.out.1).trans HG6.out
          have m7 := (cell4 g7).2.2.1
          have fr7 := frozen_of_row _ _ 2 _ _ g7
          obtain ⟨W8, hW8⟩ : ∃ W8, w7.setCell ⟨w.heap.size, 2, none⟩ (.slice Ap (onL (x.next.set L true)).length cp) = W8 := ⟨_, rfl⟩
          have t8 : Tch (fun k => k = w.heap.size) w7 W8 := by rw [← hW8]; exact (Tch.refl (fun k => k = w.heap.size) w7).setCell (p := ⟨w.heap.size, 2, none⟩) (fun _ => rfl) _
          have g8 : W8.heap[w.heap.size]? = some (.cells #[.int .u64 (x.need : Int), .int .u64 (x.ban : Int), .slice Ap (onL (x.next.set L true)).length cp, .slice An (onL (x.now.set j true)).length cn] 62 (0, 0)) := by rw [← hW8, heap_setCell_same _ _ 2 _ _ _ g7]; rfl
          have hb67 : Below W6.heap.size W6 w7 := hb7
          have hb68 : Below w.heap.size w W8 := HB6.out.trans ((hb67.mono HB6.out.size).trans (t8.below (Nat.le_trans HB6.out.size hb67.size) (fun k hk e => by omega)))
          have s7 := spares_one g7 (t := 3) (by decide)
          have hRR : RR W8 ((x.made j t).owing L) Ap cp An cn A' (c - 1) := ⟨hT7.keep t8 s7, (HT6.out HNW.out hb67).keep t8 s7, (HTD.out.below hb68 (Nat.le_refl _)).up hb68.size⟩
          have HRR := Lib.hid hRR
          have HB8 := Lib.hid hb68
          have hn7 : (onL (x.next.set L true)).length ≤ 1000 := Nat.le_trans (onL_len _) (by rw [List.length_set, HC.out.ok.next]; exact hl)
          have hk7 := hT7.sl.cap
          have HIH2 := Lib.hid (IH.out ((x.made j t).owing L) (x.need : Int) (x.ban : Int) Ap (onL (x.next.set L true)).length cp An (onL (x.now.set j true)).length cn A' t.length (c - 1) W8 (HF.out.below hb68 hB) (HS.out.below hb68 hB) (Nat.le_trans hB hb68.size) hRR (HKID.out _ (by rw [HSPL.out]; simp)) rfl rfl rfl rfl rfl)
          obtain ⟨q0, q1, q2, q3⟩ := cell4 g8
          clear hT7 ho7 g7 t8 s7 hRR hb68 hb67 hb7 HP g8 k0 k1 k2 k3 l0 l1 l2 l3
          go_wp2_with fail
          refine Calls.mono HIH2.out ?_
          obtain ⟨T1, hT1⟩ : ∃ T, (leaves f n ((x.made j t).owing L)).map Way.cov = T := ⟨_, rfl⟩
          rw [hT1]
          have HTT1 := Lib.hid hT1
          clear hT1
          rintro e w9 ⟨u9, xs9, rfl, ho9, hcv9, hb9⟩
          have H9 : Hid (WaysPost W8 T1 (.returned u9) w9) := Lib.hid ⟨u9, xs9, rfl, ho9, hcv9, hb9⟩
          clear ho9 hcv9 hb9
          go_wp2_with fail
          go_ret
          rw [HLV.out, HSPL.out]
          show WaysPost w (List.map Way.cov (leaves f n ((x.made j t).owing L) ++ [])) _ _
          rw [List.append_nil, HTT1.out]
          exact ways_base HB8.out H9.out
        · have HE := Lib.hid e
          have HSPL : Hid (splitW f j (x.made j t) = [(x.made j t).with_ [rightOf f j], ((x.made j t).with_ [leftOf f j]).owing j]) := Lib.hid (by unfold splitW; rw [e]; rfl)
          obtain ⟨hkd, hL, hRt⟩ := HOP.out.kid2 (by rw [e]; decide)
          generalize leftOf f j = L at *
          generalize rightOf f j = R at *
          rw [hkd]
          rw [e] at hop6
          obtain ⟨wd1, hwd1⟩ : ∃ wd, W6.drew = wd := ⟨_, rfl⟩
          have hbc1 : Below W6.heap.size W6 wd1 := by rw [← hwd1]; exact (Below.refl _ _).drew
          have hbd1 : Below W6.heap.size W6 wd1 := hbc1
          have HWD1 := Lib.hid hwd1
          clear hwd1
          go_wp2_with fail
          refine wp_region_held_drew (S := fun w' => w'.cell? ⟨w.heap.size, 0, none⟩ = some (.int .u64 (x.need : Int)) ∧ w'.cell? ⟨w.heap.size, 1, none⟩ = some (.int .u64 (x.ban : Int)) ∧ w'.cell? ⟨w.heap.size, 2, none⟩ = some (.slice A1 (onL x.next).length c1) ∧ w'.cell? ⟨w.heap.size, 3, none⟩ = some (.slice An (onL (x.now.set j true)).length cn)) (by kernel_rfl) ⟨k0, k1, k2, k3⟩ (fun hS => ?_)
          refine wpAnyH_takeD (i := 0) (v := ?_) rfl (by kernel_rfl) (by kernel_rfl) (by kernel_rfl) (fun _ _ _ h => h) (Or.inl ⟨by kernel_rfl, ?_⟩) hS ?_
          rotate_left 1
          · (intro w' hSw; (try dsimp only at hSw); go_simp; try (with_reducible rfl))
          try simp only [Act.put, List.setIfInBounds_toArray, List.set_cons_zero, List.set_cons_succ]
          refine wpAnyH_takeD (i := 1) (v := ?_) rfl (by kernel_rfl) (by kernel_rfl) (by kernel_rfl) (fun _ _ _ h => h) (Or.inl ⟨by kernel_rfl, ?_⟩) hS ?_
          rotate_left 1
          · (intro w' hSw; (try dsimp only at hSw); go_simp; try (with_reducible rfl))
          try simp only [Act.put, List.setIfInBounds_toArray, List.set_cons_zero, List.set_cons_succ]
          refine wpAnyH_takeD (i := 2) (v := ?_) rfl (by kernel_rfl) (by kernel_rfl) (by kernel_rfl) (fun _ _ _ h => h) (Or.inl ⟨by kernel_rfl, ?_⟩) hS ?_
          rotate_left 1
          · (intro w' hSw; (try dsimp only at hSw); go_simp; try (with_reducible rfl))
          try simp only [Act.put, List.setIfInBounds_toArray, List.set_cons_zero, List.set_cons_succ]
          refine wpAnyH_takeD (i := 3) (v := ?_) rfl (by kernel_rfl) (by kernel_rfl) (by kernel_rfl) (fun _ _ _ h => h) (Or.inl ⟨by kernel_rfl, ?_⟩) hS ?_
          rotate_left 1
          · (intro w' hSw; (try dsimp only at hSw); go_simp; try (with_reducible rfl))
          try simp only [Act.put, List.setIfInBounds_toArray, List.set_cons_zero, List.set_cons_succ]
          refine wpAnyH_takeD (i := 4) (v := ?_) rfl (by kernel_rfl) (by kernel_rfl) (by kernel_rfl) (fun _ _ _ h => h) (Or.inl ⟨by kernel_rfl, ?_⟩) hS ?_
          rotate_left 1
          · (intro w' hSw; (try dsimp only at hSw); go_simp; try (with_reducible rfl))
          try simp only [Act.put, List.setIfInBounds_toArray, List.set_cons_zero, List.set_cons_succ]
          refine wpAnyH_oneD (i := 5) rfl (by kernel_rfl) (fun K hK => ?_)
          go_simp
          rw [HWD1.out]
          refine Calls.mono (HAH1.out R wd1 hbd1) ?_
          rintro e w1a ⟨v1, rfl, ho1, hb1⟩
          obtain ⟨At1, ct1, rfl, hT1⟩ := TSl.of_own ho1
          have hc1 := hbd1.trans (hb1.mono hbd1.size)
          have hf1 := hbc1.trans (hb1.mono hbc1.size)
          clear ho1 hb1
          have hRR1 : RR w1a ((x.made j t).with_ [R]) A1 c1 An cn At1 ct1 := ⟨HT6.out HN1.out hc1, HT6.out HNW.out hc1, hT1.sl⟩
          obtain ⟨m1, hm1⟩ : ∃ m, (R :: t).length = m := ⟨_, rfl⟩
          rw [hm1]
          have HM1 : Hid (m1 = ((x.made j t).with_ [R]).todo.length) := Lib.hid hm1.symm
          have HRR1 := Lib.hid hRR1
          clear hm1 hRR1 hT1
          dsimp only
          refine hK.out _ _ ⟨(hc1.cell (p := ⟨w.heap.size, 0, none⟩) HZ6.out.1).trans k0, (hc1.cell (p := ⟨w.heap.size, 1, none⟩) HZ6.out.1).trans k1, (hc1.cell (p := ⟨w.heap.size, 2, none⟩) HZ6.out.1).trans k2, (hc1.cell (p := ⟨w.heap.size, 3, none⟩) HZ6.out.1).trans k3⟩ (fun hS => ?_)
          clear hK
          try simp only [Act.put, List.setIfInBounds_toArray, List.set_cons_zero, List.set_cons_succ]
          refine wpAnyH_oneD (i := 6) rfl (by kernel_rfl) (fun K hK => ?_)
          go_simp
          refine Calls.mono (HIH.out ((x.made j t).with_ [R]) (by rw [HSPL.out]; simp) (x.need : Int) (x.ban : Int) A1 (onL x.next).length c1 An (onL (x.now.set j true)).length cn At1 m1 ct1 w1a hc1 HRR1.out rfl rfl rfl rfl HM1.out) ?_
          obtain ⟨T1, hT1⟩ : ∃ T, (leaves f n ((x.made j t).with_ [R])).map Way.cov = T := ⟨_, rfl⟩
          rw [hT1]
          have HTT1 := Lib.hid hT1
          clear hT1
          rintro e w1b ⟨u1, xs1, rfl, ho1, hcv1, hb1⟩
          have hd1 := hc1.trans (hb1.mono hc1.size)
          have hg1 := hf1.trans (hb1.mono hf1.size)
          have H1 : Hid (WaysPost w1a T1 (.returned u1) w1b) := Lib.hid ⟨u1, xs1, rfl, ho1, hcv1, hb1⟩
          clear ho1 hcv1 hb1
          dsimp only
          refine hK.out _ _ ⟨(hd1.cell (p := ⟨w.heap.size, 0, none⟩) HZ6.out.1).trans k0, (hd1.cell (p := ⟨w.heap.size, 1, none⟩) HZ6.out.1).trans k1, (hd1.cell (p := ⟨w.heap.size, 2, none⟩) HZ6.out.1).trans k2, (hd1.cell (p := ⟨w.heap.size, 3, none⟩) HZ6.out.1).trans k3⟩ (fun hS => ?_)
          clear hK
          try simp only [Act.put, List.setIfInBounds_toArray, List.set_cons_zero, List.set_cons_succ]
          refine wpAnyH_takeD (i := 7) (v := ?_) rfl (by kernel_rfl) (by kernel_rfl) (by kernel_rfl) (fun _ _ _ h => h) (Or.inl ⟨by kernel_rfl, ?_⟩) hS ?_
          rotate_left 1
          · (intro w' hSw; (try dsimp only at hSw); go_simp; try (with_reducible rfl))
          try simp only [Act.put, List.setIfInBounds_toArray, List.set_cons_zero, List.set_cons_succ]
          refine wpAnyH_done (by kernel_rfl) ?_ _
          obtain ⟨wd2, hwd2⟩ : ∃ wd, w1b.drew = wd := ⟨_, rfl⟩
          have hbc2 : Below w1b.heap.size w1b wd2 := by rw [← hwd2]; exact (Below.refl _ _).drew
          have hbd2 : Below W6.heap.size W6 wd2 := hd1.trans (hbc2.mono hd1.size)
          have HWD2 := Lib.hid hwd2
          clear hwd2
          go_wp2_with fail
          refine wp_region_held_drew (S := fun w' => w'.cell? ⟨w4.heap.size, 0, none⟩ = some (.int .u64 (x.need : Int)) ∧ w'.cell? ⟨w4.heap.size, 1, none⟩ = some (.int .u64 (x.ban : Int)) ∧ w'.cell? ⟨w4.heap.size, 2, none⟩ = some (.slice Ax (onL (x.next.set j true)).length cx) ∧ w'.cell? ⟨w4.heap.size, 3, none⟩ = some (.slice An (onL (x.now.set j true)).length cn)) (by kernel_rfl) ⟨(hd1.cell (p := ⟨w4.heap.size, 0, none⟩) HZ6.out.2.1).trans l0, (hd1.cell (p := ⟨w4.heap.size, 1, none⟩) HZ6.out.2.1).trans l1, (hd1.cell (p := ⟨w4.heap.size, 2, none⟩) HZ6.out.2.1).trans l2, (hd1.cell (p := ⟨w4.heap.size, 3, none⟩) HZ6.out.2.1).trans l3⟩ (fun hS => ?_)
          refine wpAnyH_takeD (i := 0) (v := ?_) rfl (by kernel_rfl) (by kernel_rfl) (by kernel_rfl) (fun _ _ _ h => h) (Or.inl ⟨by kernel_rfl, ?_⟩) hS ?_
          rotate_left 1
          · (intro w' hSw; (try dsimp only at hSw); go_simp; try (with_reducible rfl))
          try simp only [Act.put, List.setIfInBounds_toArray, List.set_cons_zero, List.set_cons_succ]
          refine wpAnyH_takeD (i := 1) (v := ?_) rfl (by kernel_rfl) (by kernel_rfl) (by kernel_rfl) (fun _ _ _ h => h) (Or.inl ⟨by kernel_rfl, ?_⟩) hS ?_
          rotate_left 1
          · (intro w' hSw; (try dsimp only at hSw); go_simp; try (with_reducible rfl))
          try simp only [Act.put, List.setIfInBounds_toArray, List.set_cons_zero, List.set_cons_succ]
          refine wpAnyH_takeD (i := 2) (v := ?_) rfl (by kernel_rfl) (by kernel_rfl) (by kernel_rfl) (fun _ _ _ h => h) (Or.inl ⟨by kernel_rfl, ?_⟩) hS ?_
          rotate_left 1
          · (intro w' hSw; (try dsimp only at hSw); go_simp; try (with_reducible rfl))
          try simp only [Act.put, List.setIfInBounds_toArray, List.set_cons_zero, List.set_cons_succ]
          refine wpAnyH_takeD (i := 3) (v := ?_) rfl (by kernel_rfl) (by kernel_rfl) (by kernel_rfl) (fun _ _ _ h => h) (Or.inl ⟨by kernel_rfl, ?_⟩) hS ?_
          rotate_left 1
          · (intro w' hSw; (try dsimp only at hSw); go_simp; try (with_reducible rfl))
          try simp only [Act.put, List.setIfInBounds_toArray, List.set_cons_zero, List.set_cons_succ]
          refine wpAnyH_takeD (i := 4) (v := ?_) rfl (by kernel_rfl) (by kernel_rfl) (by kernel_rfl) (fun _ _ _ h => h) (Or.inl ⟨by kernel_rfl, ?_⟩) hS ?_
          rotate_left 1
          · (intro w' hSw; (try dsimp only at hSw); go_simp; try (with_reducible rfl))
          try simp only [Act.put, List.setIfInBounds_toArray, List.set_cons_zero, List.set_cons_succ]
          refine wpAnyH_oneD (i := 5) rfl (by kernel_rfl) (fun K hK => ?_)
          go_simp
          rw [HWD2.out]
          refine Calls.mono (HAH1.out L wd2 hbd2) ?_
          rintro e w2a ⟨v2, rfl, ho2, hb2⟩
          obtain ⟨At2, ct2, rfl, hT2⟩ := TSl.of_own ho2
          have hc2 := hbd2.trans (hb2.mono hbd2.size)
          have hf2 := hbc2.trans (hb2.mono hbc2.size)
          clear ho2 hb2
          have hRR2 : RR w2a (((x.made j t).with_ [L]).owing j) Ax cx An cn At2 ct2 := ⟨HT6.out HNX.out hc2, HT6.out HNW.out hc2, hT2.sl⟩
          obtain ⟨m2, hm2⟩ : ∃ m, (L :: t).length = m := ⟨_, rfl⟩
          rw [hm2]
          have HM2 : Hid (m2 = (((x.made j t).with_ [L]).owing j).todo.length) := Lib.hid hm2.symm
          have HRR2 := Lib.hid hRR2
          clear hm2 hRR2 hT2
          dsimp only
          refine hK.out _ _ ⟨(hc2.cell (p := ⟨w4.heap.size, 0, none⟩) HZ6.out.2.1).trans l0, (hc2.cell (p := ⟨w4.heap.size, 1, none⟩) HZ6.out.2.1).trans l1, (hc2.cell (p := ⟨w4.heap.size, 2, none⟩) HZ6.out.2.1).trans l2, (hc2.cell (p := ⟨w4.heap.size, 3, none⟩) HZ6.out.2.1).trans l3⟩ (fun hS => ?_)
          clear hK
          try simp only [Act.put, List.setIfInBounds_toArray, List.set_cons_zero, List.set_cons_succ]
          refine wpAnyH_oneD (i := 6) rfl (by kernel_rfl) (fun K hK => ?_)
          go_simp
          refine Calls.mono (HIH.out (((x.made j t).with_ [L]).owing j) (by rw [HSPL.out]; simp) (x.need : Int) (x.ban : Int) Ax (onL (x.next.set j true)).length cx An (onL (x.now.set j true)).length cn At2 m2 ct2 w2a hc2 HRR2.out rfl rfl rfl rfl HM2.out) ?_
          obtain ⟨T2, hT2⟩ : ∃ T, (leaves f n (((x.made j t).with_ [L]).owing j)).map Way.cov = T := ⟨_, rfl⟩
          rw [hT2]
          have HTT2 := Lib.hid hT2
          clear hT2
          rintro e w2b ⟨u2, xs2, rfl, ho2, hcv2, hb2⟩
          have hd2 := hc2.trans (hb2.mono hc2.size)
          have hg2 := hf2.trans (hb2.mono hf2.size)
          have H2 : Hid (WaysPost w2a T2 (.returned u2) w2b) := Lib.hid ⟨u2, xs2, rfl, ho2, hcv2, hb2⟩
          clear ho2 hcv2 hb2
          dsimp only
          refine hK.out _ _ ⟨(hd2.cell (p := ⟨w4.heap.size, 0, none⟩) HZ6.out.2.1).trans l0, (hd2.cell (p := ⟨w4.heap.size, 1, none⟩) HZ6.out.2.1).trans l1, (hd2.cell (p := ⟨w4.heap.size, 2, none⟩) HZ6.out.2.1).trans l2, (hd2.cell (p := ⟨w4.heap.size, 3, none⟩) HZ6.out.2.1).trans l3⟩ (fun hS => ?_)
          clear hK
          try simp only [Act.put, List.setIfInBounds_toArray, List.set_cons_zero, List.set_cons_succ]
          refine wpAnyH_takeD (i := 7) (v := ?_) rfl (by kernel_rfl) (by kernel_rfl) (by kernel_rfl) (fun _ _ _ h => h) (Or.inl ⟨by kernel_rfl, ?_⟩) hS ?_
          rotate_left 1
          · (intro w' hSw; (try dsimp only at hSw); go_simp; try (with_reducible rfl))
          try simp only [Act.put, List.setIfInBounds_toArray, List.set_cons_zero, List.set_cons_succ]
          refine wpAnyH_done (by kernel_rfl) ?_ _
          obtain ⟨u1', xs1, e1', ho1, hcv1, hb1⟩ := H1.out
          cases e1'
          obtain ⟨u2', xs2, e2', ho2, hcv2, hb2⟩ := H2.out
          cases e2'
          obtain ⟨Au, cu, hu2, hsu⟩ := own_sl ho2
          subst hu2
          have hlT : T1.length + T2.length ≤ 1000000 := by
            have hal := HC.out.all
            rw [HLV.out, HSPL.out] at hal
            change (leaves f n ((x.made j t).with_ [R]) ++ (leaves f n (((x.made j t).with_ [L]).owing j) ++ [])).length ≤ _ at hal
            rw [List.append_nil, List.length_append] at hal
            rw [← HTT1.out, ← HTT2.out, List.length_map, List.length_map]; exact hal
          have ho1' := own_base (own_below ho1 hg2) (show w.heap.size ≤ w1a.heap.size from Nat.le_trans (Nat.le_trans HB6.out.size hc1.size) (Nat.le_refl _))
          have hcv1' := hcv1.keep (Tch.of_below hg2) (spares_new _ _)
          have hw2 := HB6.out.trans (hd2.mono HB6.out.size)
          have h1x := hcv2.one' ho2.1
          have HO1 := Lib.hid ho1'
          have HSU := Lib.hid hsu
          have hwz := hw2.size
          clear ho1 hcv1 hb1 ho2 hb2 k0 k1 k2 k3 l0 l1 l2 l3
          clear hsu ho1' hS
          go_wp2_with (at_builtin
                       refine wpList_extend rfl (.tmp 145) (.tmp 146) 58 rfl w.heap.size 62 4 64 sliceCovR _ _ _ HO1.out rfl w2b.heap.size Au T2.length cu xs2 rfl HSU.out h1x (by omega) (by omega) hwz ?_
                       intro v9 w9 hown9 ht9 hat9 hne9)
          go_ret
          rw [HLV.out, HSPL.out]
          show WaysPost w (List.map Way.cov (leaves f n ((x.made j t).with_ [R]) ++ (leaves f n (((x.made j t).with_ [L]).owing j) ++ []))) _ _
          rw [List.append_nil, List.map_append, HTT1.out, HTT2.out]
          exact ways_join hw2 HO1.out hcv1' hcv2 hown9 rfl rfl ht9
        · have HE := Lib.hid e
          have HSPL : Hid (splitW f j (x.made j t) = [(x.made j t).with_ [leftOf f j, rightOf f j], ((x.made j t).with_ [rightOf f j]).owing j]) := Lib.hid (by unfold splitW; rw [e]; rfl)
          obtain ⟨hkd, hL, hRt⟩ := HOP.out.kid2 (by rw [e]; decide)
          generalize leftOf f j = L at *
          generalize rightOf f j = R at *
          rw [hkd]
          rw [e] at hop6
          obtain ⟨wd1, hwd1⟩ : ∃ wd, W6.drew = wd := ⟨_, rfl⟩
          have hbc1 : Below W6.heap.size W6 wd1 := by rw [← hwd1]; exact (Below.refl _ _).drew
          have hbd1 : Below W6.heap.size W6 wd1 := hbc1
          have HWD1 := Lib.hid hwd1
          clear hwd1
          go_wp2_with fail
          refine wp_region_held_drew (S := fun w' => w'.cell? ⟨w.heap.size, 0, none⟩ = some (.int .u64 (x.need : Int)) ∧ w'.cell? ⟨w.heap.size, 1, none⟩ = some (.int .u64 (x.ban : Int)) ∧ w'.cell? ⟨w.heap.size, 2, none⟩ = some (.slice A1 (onL x.next).length c1) ∧ w'.cell? ⟨w.heap.size, 3, none⟩ = some (.slice An (onL (x.now.set j true)).length cn)) (by kernel_rfl) ⟨k0, k1, k2, k3⟩ (fun hS => ?_)
          refine wpAnyH_takeD (i := 0) (v := ?_) rfl (by kernel_rfl) (by kernel_rfl) (by kernel_rfl) (fun _ _ _ h => h) (Or.inl ⟨by kernel_rfl, ?_⟩) hS ?_
          rotate_left 1
          · (intro w' hSw; (try dsimp only at hSw); go_simp; try (with_reducible rfl))
          try simp only [Act.put, List.setIfInBounds_toArray, List.set_cons_zero, List.set_cons_succ]
          refine wpAnyH_takeD (i := 1) (v := ?_) rfl (by kernel_rfl) (by kernel_rfl) (by kernel_rfl) (fun _ _ _ h => h) (Or.inl ⟨by kernel_rfl, ?_⟩) hS ?_
          rotate_left 1
          · (intro w' hSw; (try dsimp only at hSw); go_simp; try (with_reducible rfl))
          try simp only [Act.put, List.setIfInBounds_toArray, List.set_cons_zero, List.set_cons_succ]
          refine wpAnyH_takeD (i := 2) (v := ?_) rfl (by kernel_rfl) (by kernel_rfl) (by kernel_rfl) (fun _ _ _ h => h) (Or.inl ⟨by kernel_rfl, ?_⟩) hS ?_
          rotate_left 1
          · (intro w' hSw; (try dsimp only at hSw); go_simp; try (with_reducible rfl))
          try simp only [Act.put, List.setIfInBounds_toArray, List.set_cons_zero, List.set_cons_succ]
          refine wpAnyH_takeD (i := 3) (v := ?_) rfl (by kernel_rfl) (by kernel_rfl) (by kernel_rfl) (fun _ _ _ h => h) (Or.inl ⟨by kernel_rfl, ?_⟩) hS ?_
          rotate_left 1
          · (intro w' hSw; (try dsimp only at hSw); go_simp; try (with_reducible rfl))
          try simp only [Act.put, List.setIfInBounds_toArray, List.set_cons_zero, List.set_cons_succ]
          refine wpAnyH_takeD (i := 4) (v := ?_) rfl (by kernel_rfl) (by kernel_rfl) (by kernel_rfl) (fun _ _ _ h => h) (Or.inl ⟨by kernel_rfl, ?_⟩) hS ?_
          rotate_left 1
          · (intro w' hSw; (try dsimp only at hSw); go_simp; try (with_reducible rfl))
          try simp only [Act.put, List.setIfInBounds_toArray, List.set_cons_zero, List.set_cons_succ]
          refine wpAnyH_takeD (i := 5) (v := ?_) rfl (by kernel_rfl) (by kernel_rfl) (by kernel_rfl) (fun _ _ _ h => h) (Or.inl ⟨by kernel_rfl, ?_⟩) hS ?_
          rotate_left 1
          · (intro w' hSw; (try dsimp only at hSw); go_simp; try (with_reducible rfl))
          try simp only [Act.put, List.setIfInBounds_toArray, List.set_cons_zero, List.set_cons_succ]
          refine wpAnyH_oneD (i := 6) rfl (by kernel_rfl) (fun K hK => ?_)
          go_simp
          rw [HWD1.out]
          refine Calls.mono (HAH2.out L R wd1 hbd1) ?_
          rintro e w1a ⟨v1, rfl, ho1, hb1⟩
          obtain ⟨At1, ct1, rfl, hT1⟩ := TSl.of_own ho1
          have hc1 := hbd1.trans (hb1.mono hbd1.size)
          have hf1 := hbc1.trans (hb1.mono hbc1.size)
          clear ho1 hb1
          have hRR1 : RR w1a ((x.made j t).with_ [L, R]) A1 c1 An cn At1 ct1 := ⟨HT6.out HN1.out hc1, HT6.out HNW.out hc1, hT1.sl⟩
          obtain ⟨m1, hm1⟩ : ∃ m, (L :: R :: t).length = m := ⟨_, rfl⟩
          rw [hm1]
          have HM1 : Hid (m1 = ((x.made j t).with_ [L, R]).todo.length) := Lib.hid hm1.symm
          have HRR1 := Lib.hid hRR1
          clear hm1 hRR1 hT1
          dsimp only
          refine hK.out _ _ ⟨(hc1.cell (p := ⟨w.heap.size, 0, none⟩) HZ6.out.1).trans k0, (hc1.cell (p := ⟨w.heap.size, 1, none⟩) HZ6.out.1).trans k1, (hc1.cell (p := ⟨w.heap.size, 2, none⟩) HZ6.out.1).trans k2, (hc1.cell (p := ⟨w.heap.size, 3, none⟩) HZ6.out.1).trans k3⟩ (fun hS => ?_)
          clear hK
          try simp only [Act.put, List.setIfInBounds_toArray, List.set_cons_zero, List.set_cons_succ]
          refine wpAnyH_oneD (i := 7) rfl (by kernel_rfl) (fun K hK => ?_)
          go_simp
          refine Calls.mono (HIH.out ((x.made j t).with_ [L, R]) (by rw [HSPL.out]; simp) (x.need : Int) (x.ban : Int) A1 (onL x.next).length c1 An (onL (x.now.set j true)).length cn At1 m1 ct1 w1a hc1 HRR1.out rfl rfl rfl rfl HM1.out) ?_
          obtain ⟨T1, hT1⟩ : ∃ T, (leaves f n ((x.made j t).with_ [L, R])).map Way.cov = T := ⟨_, rfl⟩
          rw [hT1]
          have HTT1 := Lib.hid hT1
          clear hT1
          rintro e w1b ⟨u1, xs1, rfl, ho1, hcv1, hb1⟩
          have hd1 := hc1.trans (hb1.mono hc1.size)
          have hg1 := hf1.trans (hb1.mono hf1.size)
          have H1 : Hid (WaysPost w1a T1 (.returned u1) w1b) := Lib.hid ⟨u1, xs1, rfl, ho1, hcv1, hb1⟩
          clear ho1 hcv1 hb1
          dsimp only
          refine hK.out _ _ ⟨(hd1.cell (p := ⟨w.heap.size, 0, none⟩) HZ6.out.1).trans k0, (hd1.cell (p := ⟨w.heap.size, 1, none⟩) HZ6.out.1).trans k1, (hd1.cell (p := ⟨w.heap.size, 2, none⟩) HZ6.out.1).trans k2, (hd1.cell (p := ⟨w.heap.size, 3, none⟩) HZ6.out.1).trans k3⟩ (fun hS => ?_)
          clear hK
          try simp only [Act.put, List.setIfInBounds_toArray, List.set_cons_zero, List.set_cons_succ]
          refine wpAnyH_takeD (i := 8) (v := ?_) rfl (by kernel_rfl) (by kernel_rfl) (by kernel_rfl) (fun _ _ _ h => h) (Or.inl ⟨by kernel_rfl, ?_⟩) hS ?_
          rotate_left 1
          · (intro w' hSw; (try dsimp only at hSw); go_simp; try (with_reducible rfl))
          try simp only [Act.put, List.setIfInBounds_toArray, List.set_cons_zero, List.set_cons_succ]
          refine wpAnyH_done (by kernel_rfl) ?_ _
          obtain ⟨wd2, hwd2⟩ : ∃ wd, w1b.drew = wd := ⟨_, rfl⟩
          have hbc2 : Below w1b.heap.size w1b wd2 := by rw [← hwd2]; exact (Below.refl _ _).drew
          have hbd2 : Below W6.heap.size W6 wd2 := hd1.trans (hbc2.mono hd1.size)
          have HWD2 := Lib.hid hwd2
          clear hwd2
          go_wp2_with fail
          refine wp_region_held_drew (S := fun w' => w'.cell? ⟨w4.heap.size, 0, none⟩ = some (.int .u64 (x.need : Int)) ∧ w'.cell? ⟨w4.heap.size, 1, none⟩ = some (.int .u64 (x.ban : Int)) ∧ w'.cell? ⟨w4.heap.size, 2, none⟩ = some (.slice Ax (onL (x.next.set j true)).length cx) ∧ w'.cell? ⟨w4.heap.size, 3, none⟩ = some (.slice An (onL (x.now.set j true)).length cn)) (by kernel_rfl) ⟨(hd1.cell (p := ⟨w4.heap.size, 0, none⟩) HZ6.out.2.1).trans l0, (hd1.cell (p := ⟨w4.heap.size, 1, none⟩) HZ6.out.2.1).trans l1, (hd1.cell (p := ⟨w4.heap.size, 2, none⟩) HZ6.out.2.1).trans l2, (hd1.cell (p := ⟨w4.heap.size, 3, none⟩) HZ6.out.2.1).trans l3⟩ (fun hS => ?_)
          refine wpAnyH_takeD (i := 0) (v := ?_) rfl (by kernel_rfl) (by kernel_rfl) (by kernel_rfl) (fun _ _ _ h => h) (Or.inl ⟨by kernel_rfl, ?_⟩) hS ?_
          rotate_left 1
          · (intro w' hSw; (try dsimp only at hSw); go_simp; try (with_reducible rfl))
          try simp only [Act.put, List.setIfInBounds_toArray, List.set_cons_zero, List.set_cons_succ]
          refine wpAnyH_takeD (i := 1) (v := ?_) rfl (by kernel_rfl) (by kernel_rfl) (by kernel_rfl) (fun _ _ _ h => h) (Or.inl ⟨by kernel_rfl, ?_⟩) hS ?_
          rotate_left 1
          · (intro w' hSw; (try dsimp only at hSw); go_simp; try (with_reducible rfl))
          try simp only [Act.put, List.setIfInBounds_toArray, List.set_cons_zero, List.set_cons_succ]
          refine wpAnyH_takeD (i := 2) (v := ?_) rfl (by kernel_rfl) (by kernel_rfl) (by kernel_rfl) (fun _ _ _ h => h) (Or.inl ⟨by kernel_rfl, ?_⟩) hS ?_
          rotate_left 1
          · (intro w' hSw; (try dsimp only at hSw); go_simp; try (with_reducible rfl))
          try simp only [Act.put, List.setIfInBounds_toArray, List.set_cons_zero, List.set_cons_succ]
          refine wpAnyH_takeD (i := 3) (v := ?_) rfl (by kernel_rfl) (by kernel_rfl) (by kernel_rfl) (fun _ _ _ h => h) (Or.inl ⟨by kernel_rfl, ?_⟩) hS ?_
          rotate_left 1
          · (intro w' hSw; (try dsimp only at hSw); go_simp; try (with_reducible rfl))
          try simp only [Act.put, List.setIfInBounds_toArray, List.set_cons_zero, List.set_cons_succ]
          refine wpAnyH_takeD (i := 4) (v := ?_) rfl (by kernel_rfl) (by kernel_rfl) (by kernel_rfl) (fun _ _ _ h => h) (Or.inl ⟨by kernel_rfl, ?_⟩) hS ?_
          rotate_left 1
          · (intro w' hSw; (try dsimp only at hSw); go_simp; try (with_reducible rfl))
          try simp only [Act.put, List.setIfInBounds_toArray, List.set_cons_zero, List.set_cons_succ]
          refine wpAnyH_oneD (i := 5) rfl (by kernel_rfl) (fun K hK => ?_)
          go_simp
          rw [HWD2.out]
          refine Calls.mono (HAH1.out R wd2 hbd2) ?_
          rintro e w2a ⟨v2, rfl, ho2, hb2⟩
          obtain ⟨At2, ct2, rfl, hT2⟩ := TSl.of_own ho2
          have hc2 := hbd2.trans (hb2.mono hbd2.size)
          have hf2 := hbc2.trans (hb2.mono hbc2.size)
          clear ho2 hb2
          have hRR2 : RR w2a (((x.made j t).with_ [R]).owing j) Ax cx An cn At2 ct2 := ⟨HT6.out HNX.out hc2, HT6.out HNW.out hc2, hT2.sl⟩
          obtain ⟨m2, hm2⟩ : ∃ m, (R :: t).length = m := ⟨_, rfl⟩
          rw [hm2]
          have HM2 : Hid (m2 = (((x.made j t).with_ [R]).owing j).todo.length) := Lib.hid hm2.symm
          have HRR2 := Lib.hid hRR2
          clear hm2 hRR2 hT2
          dsimp only
          refine hK.out _ _ ⟨(hc2.cell (p := ⟨w4.heap.size, 0, none⟩) HZ6.out.2.1).trans l0, (hc2.cell (p := ⟨w4.heap.size, 1, none⟩) HZ6.out.2.1).trans l1, (hc2.cell (p := ⟨w4.heap.size, 2, none⟩) HZ6.out.2.1).trans l2, (hc2.cell (p := ⟨w4.heap.size, 3, none⟩) HZ6.out.2.1).trans l3⟩ (fun hS => ?_)
          clear hK
          try simp only [Act.put, List.setIfInBounds_toArray, List.set_cons_zero, List.set_cons_succ]
          refine wpAnyH_oneD (i := 6) rfl (by kernel_rfl) (fun K hK => ?_)
          go_simp
          refine Calls.mono (HIH.out (((x.made j t).with_ [R]).owing j) (by rw [HSPL.out]; simp) (x.need : Int) (x.ban : Int) Ax (onL (x.next.set j true)).length cx An (onL (x.now.set j true)).length cn At2 m2 ct2 w2a hc2 HRR2.out rfl rfl rfl rfl HM2.out) ?_
          obtain ⟨T2, hT2⟩ : ∃ T, (leaves f n (((x.made j t).with_ [R]).owing j)).map Way.cov = T := ⟨_, rfl⟩
          rw [hT2]
          have HTT2 := Lib.hid hT2
          clear hT2
          rintro e w2b ⟨u2, xs2, rfl, ho2, hcv2, hb2⟩
          have hd2 := hc2.trans (hb2.mono hc2.size)
          have hg2 := hf2.trans (hb2.mono hf2.size)
          have H2 : Hid (WaysPost w2a T2 (.returned u2) w2b) := Lib.hid ⟨u2, xs2, rfl, ho2, hcv2, hb2⟩
          clear ho2 hcv2 hb2
          dsimp only
          refine hK.out _ _ ⟨(hd2.cell (p := ⟨w4.heap.size, 0, none⟩) HZ6.out.2.1).trans l0, (hd2.cell (p := ⟨w4.heap.size, 1, none⟩) HZ6.out.2.1).trans l1, (hd2.cell (p := ⟨w4.heap.size, 2, none⟩) HZ6.out.2.1).trans l2, (hd2.cell (p := ⟨w4.heap.size, 3, none⟩) HZ6.out.2.1).trans l3⟩ (fun hS => ?_)
          clear hK
          try simp only [Act.put, List.setIfInBounds_toArray, List.set_cons_zero, List.set_cons_succ]
          refine wpAnyH_takeD (i := 7) (v := ?_) rfl (by kernel_rfl) (by kernel_rfl) (by kernel_rfl) (fun _ _ _ h => h) (Or.inl ⟨by kernel_rfl, ?_⟩) hS ?_
          rotate_left 1
          · (intro w' hSw; (try dsimp only at hSw); go_simp; try (with_reducible rfl))
          try simp only [Act.put, List.setIfInBounds_toArray, List.set_cons_zero, List.set_cons_succ]
          refine wpAnyH_done (by kernel_rfl) ?_ _
          obtain ⟨u1', xs1, e1', ho1, hcv1, hb1⟩ := H1.out
          cases e1'
          obtain ⟨u2', xs2, e2', ho2, hcv2, hb2⟩ := H2.out
          cases e2'
          obtain ⟨Au, cu, hu2, hsu⟩ := own_sl ho2
          subst hu2
          have hlT : T1.length + T2.length ≤ 1000000 := by
            have hal := HC.out.all
            rw [HLV.out, HSPL.out] at hal
            change (leaves f n ((x.made j t).with_ [L, R]) ++ (leaves f n (((x.made j t).with_ [R]).owing j) ++ [])).length ≤ _ at hal
            rw [List.append_nil, List.length_append] at hal
            rw [← HTT1.out, ← HTT2.out, List.length_map, List.length_map]; exact hal
          have ho1' := own_base (own_below ho1 hg2) (show w.heap.size ≤ w1a.heap.size from Nat.le_trans (Nat.le_trans HB6.out.size hc1.size) (Nat.le_refl _))
          have hcv1' := hcv1.keep (Tch.of_below hg2) (spares_new _ _)
          have hw2 := HB6.out.trans (hd2.mono HB6.out.size)
          have h1x := hcv2.one' ho2.1
          have HO1 := Lib.hid ho1'
          have HSU := Lib.hid hsu
          have hwz := hw2.size
          clear ho1 hcv1 hb1 ho2 hb2 k0 k1 k2 k3 l0 l1 l2 l3
          clear hsu ho1' hS
          go_wp2_with (at_builtin
                       refine wpList_extend rfl (.tmp 165) (.tmp 166) 58 rfl w.heap.size 62 4 64 sliceCovR _ _ _ HO1.out rfl w2b.heap.size Au T2.length cu xs2 rfl HSU.out h1x (by omega) (by omega) hwz ?_
                       intro v9 w9 hown9 ht9 hat9 hne9)
          go_ret
          rw [HLV.out, HSPL.out]
          show WaysPost w (List.map Way.cov (leaves f n ((x.made j t).with_ [L, R]) ++ (leaves f n (((x.made j t).with_ [R]).owing j) ++ []))) _ _
          rw [List.append_nil, List.map_append, HTT1.out, HTT2.out]
          exact ways_join hw2 HO1.out hcv1' hcv2 hown9 rfl rfl ht9
      · rw [hnow] at HIN
        go_wp2_with fail
        refine wp_region_held_drew (S := fun w' => w'.cell? ⟨w.heap.size, 3, none⟩ = some (.slice A2 (onL x.now).length c2) ∧ w'.cell? ⟨b, o, none⟩ = some (.int .i64 (j : Int))) (by kernel_rfl) ⟨k3, hj⟩ (fun hS => ?_)
        refine wpAnyH_takeD (i := 0) (v := ?_) rfl (by kernel_rfl) (by kernel_rfl) (by kernel_rfl) (fun _ _ _ h => h) (Or.inl ⟨by kernel_rfl, ?_⟩) hS ?_
        rotate_left 1
        · (intro w' hSw; (try dsimp only at hSw); go_simp; try (with_reducible rfl))
        try simp only [Act.put, List.setIfInBounds_toArray, List.set_cons_zero, List.set_cons_succ]
        refine wpAnyH_takeD (i := 1) (v := ?_) rfl (by kernel_rfl) (by kernel_rfl) (by kernel_rfl) (fun _ _ _ h => h) (Or.inl ⟨by kernel_rfl, ?_⟩) hS ?_
        rotate_left 1
        · (intro w' hSw; (try dsimp only at hSw); go_simp; try (with_reducible rfl))
        try simp only [Act.put, List.setIfInBounds_toArray, List.set_cons_zero, List.set_cons_succ]
        refine wpAnyH_takeD (i := 2) (v := ?_) rfl (by kernel_rfl) (by kernel_rfl) (by kernel_rfl) (fun _ _ _ h => h) (Or.inl ⟨by kernel_rfl, ?_⟩) hS ?_
        rotate_left 1
        · (intro w' hSw; (try dsimp only at hSw); go_simp; try (with_reducible rfl))
        try simp only [Act.put, List.setIfInBounds_toArray, List.set_cons_zero, List.set_cons_succ]
        refine wpAnyH_takeD (i := 3) (v := ?_) rfl (by kernel_rfl) (by kernel_rfl) (by kernel_rfl) (fun _ _ _ h => h) (Or.inl ⟨by kernel_rfl, ?_⟩) hS ?_
        rotate_left 1
        · (intro w' hSw; (try dsimp only at hSw); go_simp; try (with_reducible rfl))
        try simp only [Act.put, List.setIfInBounds_toArray, List.set_cons_zero, List.set_cons_succ]
        refine wpAnyH_takeD (i := 4) (v := ?_) rfl (by kernel_rfl) (by kernel_rfl) (by kernel_rfl) (fun _ _ _ h => h) (Or.inl ⟨by kernel_rfl, ?_⟩) hS ?_
        rotate_left 1
        · (intro w' hSw; (try dsimp only at hSw); go_simp; try (with_reducible rfl))
        try simp only [Act.put, List.setIfInBounds_toArray, List.set_cons_zero, List.set_cons_succ]
        refine wpAnyH_takeD (i := 5) (v := ?_) rfl (by kernel_rfl) (by kernel_rfl) (by kernel_rfl) (fun _ _ _ h => h) (Or.inl ⟨by kernel_rfl, ?_⟩) hS ?_
        rotate_left 1
        · (intro w' hSw; (try dsimp only at hSw); go_simp; try (with_reducible rfl))
        try simp only [Act.put, List.setIfInBounds_toArray, List.set_cons_zero, List.set_cons_succ]
        refine wpAnyH_takeD (i := 6) (v := ?_) rfl (by kernel_rfl) (by kernel_rfl) (by kernel_rfl) (fun _ _ _ h => h) (Or.inl ⟨by kernel_rfl, ?_⟩) hS ?_
        rotate_left 1
        · (intro w' hSw; (try dsimp only at hSw); go_simp; try (with_reducible rfl))
        try simp only [Act.put, List.setIfInBounds_toArray, List.set_cons_zero, List.set_cons_succ]
        refine wpAnyH_takeD (i := 7) (v := ?_) rfl (by kernel_rfl) (by kernel_rfl) (by kernel_rfl) (fun _ _ _ h => h) (Or.inl ⟨by kernel_rfl, ?_⟩) hS ?_
        rotate_left 1
        · (intro w' hSw; (try dsimp only at hSw); go_simp; try (with_reducible rfl))
        try simp only [Act.put, List.setIfInBounds_toArray, List.set_cons_zero, List.set_cons_succ]
        refine wpAnyH_takeD (i := 8) (v := ?_) rfl (by kernel_rfl) (by kernel_rfl) (by kernel_rfl) (fun _ _ _ h => h) (Or.inl ⟨by kernel_rfl, ?_⟩) hS ?_
        rotate_left 1
        · (intro w' hSw; (try dsimp only at hSw); go_simp; try (with_reducible rfl))
        try simp only [Act.put, List.setIfInBounds_toArray, List.set_cons_zero, List.set_cons_succ]
        refine wpAnyH_oneD (i := 9) rfl (by kernel_rfl) (fun K hK => ?_)
        rw [if_pos (by kernel_rfl)]
        go_simp
        rw [HWD.out]
        refine Calls.mono HIN.out ?_
        rintro e w1 ⟨rfl, hb1'⟩
        have hb1 : Below wr.heap.size wr w1 := hbd.trans (hb1'.mono hbd.size)
        clear hb1'
        dsimp only
        refine hK.out _ _ ⟨(hb1.cell (p := ⟨w.heap.size, 3, none⟩) (show w.heap.size < wr.heap.size by omega)).trans k3, (hb1.cell (p := ⟨b, o, none⟩) hbb).trans hj⟩ (fun hS => ?_)
        clear hK
        try simp only [Act.put, List.setIfInBounds_toArray, List.set_cons_zero, List.set_cons_succ]
        refine wpAnyH_takeD (i := 10) (v := ?_) rfl (by kernel_rfl) (by kernel_rfl) (by kernel_rfl) (fun _ _ _ h => h) (Or.inl ⟨by kernel_rfl, ?_⟩) hS ?_
        rotate_left 1
        · (intro w' hSw; (try dsimp only at hSw); go_simp; try (with_reducible rfl))
        try simp only [Act.put, List.setIfInBounds_toArray, List.set_cons_zero, List.set_cons_succ]
        refine wpAnyH_done (by kernel_rfl) ?_ _
        go_wp2_with fail
        go_roundw
        case rel => exact ⟨t, A', c - 1, rfl, hbr.trans (hb1.mono hszr), HTT.out, by show _ = _; rw [← HSK.out]; exact (skip_go hnow).symm, by simp at hll; omega⟩
        case measure => simp [slLen]
end Go.Proofs.YtamhjgkigjpbhaaDoor

/- (XCr6) The walk of layer 28's reference: Of. -/
namespace Go.Proofs.YtamhjgkigjpbhaaDoor
open Go.RowKit

theorem onL_inj {l m : List Bool} (hl : l.length = m.length) (h : onL l = onL m) : l = m := by
  refine List.ext_getElem hl (fun i h1 h2 => ?_)
  have e : (i ∈ onL l ↔ i ∈ onL m) := by rw [h]
  rw [onL_mem, onL_mem] at e
  simp only [List.getD_eq_getElem?_getD, List.getElem?_eq_getElem h1, List.getElem?_eq_getElem h2, Option.getD_some] at e
  cases h3 : l[i] <;> cases h4 : m[i] <;> simp_all
theorem natI_inj {l m : List Nat} (h : natI l = natI m) : l = m := by
  have : (natI l).map Int.toNat = (natI m).map Int.toNat := by rw [h]
  simpa [natI, List.map_map, Function.comp_def] using this
theorem onL_none (n : Nat) : onL (List.replicate n false) = [] := by
  refine List.eq_nil_iff_forall_not_mem.2 (fun i h => ?_)
  rw [onL_mem, List.getD_eq_getElem?_getD, List.getElem?_replicate] at h
  split at h <;> simp at h
/-- Covers of n nodes each. -/
def CovN (n : Nat) (c : Cov) : Prop := c.2.2.1.length = n ∧ c.2.2.2.length = n
theorem cov_same {n : Nat} {o c : Cov} (ho : CovN n o) (hc : CovN n c) : decide ((o.1 : Int) = (c.1 : Int) ∧ (o.2.1 : Int) = (c.2.1 : Int) ∧ natI (onL o.2.2.1) = natI (onL c.2.2.1) ∧ natI (onL o.2.2.2) = natI (onL c.2.2.2)) = decide (o = c) := by
  rw [Bool.eq_iff_iff, decide_eq_true_eq, decide_eq_true_eq]
  constructor
  · rintro ⟨h1, h2, h3, h4⟩
    obtain ⟨a, b, x, y⟩ := o
    obtain ⟨a', b', x', y'⟩ := c
    have e1 := onL_inj (ho.1.trans hc.1.symm) (natI_inj h3)
    have e2 := onL_inj (ho.2.trans hc.2.symm) (natI_inj h4)
    simp only at h1 h2 e1 e2
    rw [show a = a' by omega, show b = b' by omega, e1, e2]
  · rintro rfl; exact ⟨rfl, rfl, rfl, rfl⟩
theorem leaves_ok {f : List Nd} (hk : KidsOk f) (n : Nat) {w : Way} (hw : WOk f w) : ∀ y ∈ leaves f n w, WOk f y :=
  way_ind hk (fun _ y => WOk f y) (fun _ h _ => h) (fun _ _ _ _ _ _ _ _ _ h => h) n w hw
theorem leaves_covN {f : List Nd} (hk : KidsOk f) (n : Nat) {w : Way} (hw : WOk f w) : ∀ c ∈ (leaves f n w).map Way.cov, CovN f.length c := fun c hc => by
  obtain ⟨y, hy, rfl⟩ := List.mem_map.1 hc
  have := leaves_ok hk n hw y hy
  exact ⟨this.next, this.now⟩
theorem addCR_mem {out : List Cov} {c d : Cov} (h : d ∈ addC out c) : d ∈ out ∨ d = c := by
  unfold addC at h
  split at h
  · exact .inl h
  · rcases List.mem_append.1 h with h | h
    · exact .inl h
    · exact .inr (by simpa using h)
theorem onceC_sub (l : List Cov) : ∀ out : List Cov, ∀ d ∈ onceC l out, d ∈ out ∨ d ∈ l := by
  induction l with
  | nil => intro out d h; exact .inl h
  | cons c l ih =>
    intro out d h
    rcases ih (addC out c) d h with h | h
    · rcases addCR_mem h with h | rfl
      · exact .inl h
      · exact .inr (by simp)
    · exact .inr (by simp [h])
theorem onceC_snoc (l : List Cov) (k : Nat) (hk : k < l.length) : onceC (l.take (k + 1)) [] = addC (onceC (l.take k) []) l[k] := by
  unfold onceC; rw [take_snoc l k hk, List.foldl_append]; rfl
theorem onceCR_len (l : List Cov) : ∀ out : List Cov, (onceC l out).length ≤ out.length + l.length := by
  induction l with
  | nil => intro out; simp [onceC]
  | cons c l ih =>
    intro out
    have h := ih (addC out c)
    have : (addC out c).length ≤ out.length + 1 := by unfold addC; split <;> simp
    show (onceC l (addC out c)).length ≤ _
    simp only [List.length_cons]; omega
theorem mem_snoc (l : List Cov) (k : Nat) (hk : k < l.length) (c : Cov) : decide (c ∈ l.take (k + 1)) = (decide (c ∈ l.take k) || decide (l[k] = c)) := by
  rw [take_snoc l k hk, Bool.eq_iff_iff]
  simp only [List.mem_append, List.mem_singleton, decide_eq_true_eq, Bool.or_eq_true]
  exact ⟨fun h => h.imp id Eq.symm, fun h => h.imp id Eq.symm⟩
/-- A cover, read. -/
theorem rd_cov {w : World} {B : Nat} {A : Option Addr} {xs : List Value} {T : List Cov} (h : Rd w B A xs) (hc : CovsAt w xs T) {k : Nat} {c : Cov} (hk : T[k]? = some c) :
    ∃ b off A1 c1 A2 c2, A = some ⟨b, off, none⟩ ∧ b < B ∧ w.cell? ⟨b, off + k * 4, none⟩ = some (.int .u64 (c.1 : Int)) ∧ w.cell? ⟨b, off + k * 4 + 1, none⟩ = some (.int .u64 (c.2.1 : Int)) ∧
      w.cell? ⟨b, off + k * 4 + 2, none⟩ = some (.slice A1 (onL c.2.2.1).length c1) ∧ w.cell? ⟨b, off + k * 4 + 3, none⟩ = some (.slice A2 (onL c.2.2.2).length c2) ∧
      TSl w 3 A1 (onL c.2.2.1).length c1 (icells (natI (onL c.2.2.1))) ∧ TSl w 3 A2 (onL c.2.2.2).length c2 (icells (natI (onL c.2.2.2))) := by
  obtain ⟨A1, c1, A2, c2, e0, e1, e2, e3, t1, t2⟩ := hc k c hk
  rcases h with h0 | ⟨b, off, hA, hlt, hcell⟩
  · rw [h0] at e0; simp at e0
  · exact ⟨b, off, A1, c1, A2, c2, hA, hlt, hcell _ _ e0, by rw [Nat.add_assoc]; exact hcell _ _ e1, by rw [Nat.add_assoc]; exact hcell _ _ e2, by rw [Nat.add_assoc]; exact hcell _ _ e3, t1, t2⟩
theorem spares_own {w : World} {base n t : Nat} {u : Value} {xs : List Value} {e size : Nat} (h1 : w.ownsRow base e size u n xs) (hne : e ≠ t) : Spares (fun k => u.ownBlock = some k) w t := by
  intro k cs hk he
  rcases h1.2 with ⟨rfl, _⟩ | ⟨g, cap, cur, rfl, _, hg, _⟩
  · cases he
  · simp only [Value.ownBlock, Option.some.injEq] at he
    subst he
    rw [hg] at hk
    injection hk with hk
    injection hk with _ hk
    exact hne hk
set_option maxHeartbeats 8000000 in
set_option maxRecDepth 100000 in
theorem ofR_any (A : Option Addr) (c : Nat) (f : List Nd) (Ap : Option Addr) (np cp : Nat) (ps : List Int) (w : World) (hf : Sl w w.heap.size 2 A f.length c (ncells f)) (hp : Sl w w.heap.size 1 Ap np cp (icells ps)) (hnp : np = ps.length) (hl : f.length ≤ 1000) (hpl : np ≤ 100000)
    (hlv : goodB f ps = true → (leaves f (f.length + 1) (startW f.length (ps.map Int.toNat))).length ≤ 1000000) :
    Calls Tryd.prog 24 #[.slice A f.length c, .slice Ap np cp] w (WaysPost w (askedL f ps)) := by
  subst hnp
  have hcf := hf.cap
  have hcp := hp.cap
  have HF := Lib.hid hf
  have HP := Lib.hid hp
  have HLV := Lib.hid hlv
  have HI := Lib.hid (fun (w' : World) (hb : Below w.heap.size w w') => IsR_any A c f w' w.heap.size (hf.below hb (Nat.le_refl _)) hb.size (by omega))
  have HBg := Lib.hid (Begins_any A c f w w.heap.size hf (Nat.le_refl _) (by omega))
  have HAK : Hid (askedL f ps = if goodB f ps = true then coversL f (ps.map Int.toNat) else []) := Lib.hid rfl
  have HGB : Hid (goodB f ps = (isN f && decide (f.length ≤ 50) && ps.all (partB f.length))) := Lib.hid rfl
  clear hf hp hlv
  go_enter Tryd.func24, Tryd.ntmps24
  go_wp2_with fail
  refine Calls.mono HBg.out ?_
  rintro e w1 ⟨vb, rfl, hbo, hb1, -⟩
  obtain ⟨Ab, cb, rfl, hsb⟩ := own_sl hbo
  have HI1 := Lib.hid (HI.out w1 hb1)
  have hz1 := hb1.size
  have HSB := Lib.hid hsb
  clear hbo hsb HI HBg
  cases hN : isN f
  · rw [hN] at HI1
    have HA : Hid (askedL f ps = []) := Lib.hid (by rw [HAK.out, HGB.out, hN]; rfl)
    clear hN
    go_wp2_with fail
    refine Calls.mono HI1.out ?_
    rintro e w2 ⟨rfl, hb2⟩
    go_wp2_with fail
    go_ret
    rw [HA.out]
    exact ways_none (hb1.trans (hb2.mono hz1))
  · rw [hN] at HI1
    have HN := Lib.hid hN
    clear hN
    by_cases h50 : 50 < f.length
    · have HA : Hid (askedL f ps = []) := Lib.hid (by rw [HAK.out, HGB.out, show decide (f.length ≤ 50) = false by simpa using h50]; simp)
      have d50 : decide ((50 : Int) < (f.length : Int)) = true := by simp; omega
      clear h50
      go_wp2_with fail
      refine Calls.mono HI1.out ?_
      rintro e w2 ⟨rfl, hb2⟩
      go_wp2_with fail
      go_ret
      rw [HA.out]
      exact ways_none (hb1.trans (hb2.mono hz1))
    · have d50 : decide ((50 : Int) < (f.length : Int)) = false := by simp; omega
      go_wp2_with fail
      refine Calls.mono HI1.out ?_
      rintro e w2 ⟨rfl, hb2⟩
      have hb02 := hb1.trans (hb2.mono hz1)
      have hz2 := hb02.size
      have HSB2 := Lib.hid (HSB.out.below hb2 (Nat.le_refl _))
      have hz12 := hb2.size
      clear HI1 HSB hb1 hb2
      go_wp2_with fail
      go_loopw [7] (fun i wr => ∃ k : Nat, k ≤ ps.length ∧ i = .int .i64 k ∧ Below w2.heap.size w2 wr ∧ Hid ((ps.take k).all (partB f.length) = true)) (fun i _ => ps.length - (intOf i).toNat)
      case atStart => exact ⟨0, by omega, rfl, Below.refl _ _, rfl⟩
      case round =>
        obtain ⟨k, hk, rfl, hbr, HALL⟩ := hrel
        have hsw := hbr.size
        have hb0r := hb02.trans (hbr.mono hz2)
        by_cases hlt : k < ps.length
        · obtain ⟨bb, o, rfl, hbb, hc0⟩ := HP.out.rd.at_ (icells_at' hlt)
          have hc1 := (hb0r.cell (p := ⟨bb, o + k, none⟩) hbb).trans hc0
          have hsn := all_take' hlt HALL.out
          have hno : partB f.length ps[k] = false → ps.all (partB f.length) = false := fun h => by
            rw [Bool.eq_false_iff]
            intro ha
            have := List.all_eq_true.1 ha ps[k] (List.getElem_mem hlt)
            rw [h] at this; cases this
          generalize ps[k] = z at *
          have HSN := Lib.hid hsn
          have HNO := Lib.hid hno
          have wk : IntKind.i64.wrap ((k : Int) + 1) = k + 1 := by rw [IntKind.wrap_i64]; omega
          clear hsn hno hc0
          by_cases hz0 : z < 0
          · have dz : decide (z < 0) = true := by simpa using hz0
            have HPB : Hid (partB f.length z = false) := Lib.hid (by unfold partB; simp; omega)
            have HA : Hid (askedL f ps = []) := Lib.hid (by rw [HAK.out, HGB.out, HNO.out HPB.out]; simp)
            clear hz0
            go_wp2_with fail
            go_ret
            rw [HA.out]
            exact ways_none hb0r
          · have dz : decide (z < 0) = false := by simpa using hz0
            by_cases hz9 : z < (f.length : Int)
            · have d9 : decide ((f.length : Int) ≤ z) = false := by simpa using hz9
              have HPB : Hid (partB f.length z = true) := Lib.hid (by unfold partB; simp; omega)
              clear hz0 hz9
              go_wp2_with fail
              go_roundw
              case rel => exact ⟨k + 1, by omega, by go_num, hbr, by show _ = _; rw [HSN.out]; exact HPB.out⟩
              case measure => simp [intOf]; omega
            · have d9 : decide ((f.length : Int) ≤ z) = true := by simp; omega
              have HPB : Hid (partB f.length z = false) := Lib.hid (by unfold partB; simp; omega)
              have HA : Hid (askedL f ps = []) := Lib.hid (by rw [HAK.out, HGB.out, HNO.out HPB.out]; simp)
              clear hz0 hz9
              go_wp2_with fail
              go_ret
              rw [HA.out]
              exact ways_none hb0r
        · have hkl : k = ps.length := by omega
          subst hkl
          rw [List.take_of_length_le (Nat.le_refl _)] at HALL
          have hall := HALL.out
          have HA : Hid (askedL f ps = coversL f (ps.map Int.toNat)) := Lib.hid (by rw [HAK.out, HGB.out, HN.out, hall, show decide (f.length ≤ 50) = true by simp; omega]; rfl)
          have hgd : goodB f ps = true := by rw [HGB.out, HN.out, hall, show decide (f.length ≤ 50) = true by simp; omega]; rfl
          have hps : natI (ps.map Int.toNat) = ps := by
            unfold natI
            rw [List.map_map]
            refine (List.map_congr_left (fun z hz => ?_)).trans (List.map_id ps)
            have := List.all_eq_true.1 hall z hz
            simp [partB] at this
            simp; omega
          have hok : WOk f (startW f.length (ps.map Int.toNat)) := startW_ok (fun j hj => by
            obtain ⟨z, hz, rfl⟩ := List.mem_map.1 hj
            have := List.all_eq_true.1 hall z hz
            simp [partB] at this
            omega)
          have hrc : RC f (f.length + 1) (startW f.length (ps.map Int.toNat)) := ⟨hok, by show 0 < 256; omega, by show 0 < 256; omega, by show 0 &&& 0 = 0; decide, startW_cnt _ _, by show (ps.map Int.toNat).length + 2 * (f.length + 1) ≤ 1000000; rw [List.length_map]; omega, (HLV.out hgd)⟩
          have hN0 : onL (startW f.length (ps.map Int.toNat)).next = [] := onL_none _
          have hN1 : onL (startW f.length (ps.map Int.toNat)).now = [] := onL_none _
          have hrr : RR wr (startW f.length (ps.map Int.toNat)) none 0 none 0 Ap cp := by
            refine ⟨?_, ?_, ?_⟩
            · rw [hN0]; exact ⟨Sl.none_ _ _ _, fun a h => by cases h⟩
            · rw [hN1]; exact ⟨Sl.none_ _ _ _, fun a h => by cases h⟩
            · show Sl wr wr.heap.size 1 Ap (ps.map Int.toNat).length cp (icells (natI (ps.map Int.toNat)))
              rw [hps, List.length_map]; exact (HP.out.below hb0r (Nat.le_refl _)).up hb0r.size
          have HWA := Lib.hid (ways_any f A c Ab (spans f).length cb HN.out (by omega) rfl w2.heap.size (f.length + 1) (startW f.length (ps.map Int.toNat)) 0 0 none 0 0 none 0 0 Ap ps.length cp wr (((HF.out.below hb02 (Nat.le_refl _)).up hz2).below hbr (Nat.le_refl _)) ((HSB2.out.up hz12).below hbr (Nat.le_refl _)) hsw hrr hrc rfl rfl (by rw [hN0]; rfl) (by rw [hN1]; rfl) (by show ps.length = (ps.map Int.toNat).length; rw [List.length_map]))
          have hcn := leaves_covN (kidsOk_of HN.out) (f.length + 1) hok
          have hT0 : ((leaves f (f.length + 1) (startW f.length (ps.map Int.toNat))).map Way.cov).length ≤ 1000000 := by rw [List.length_map]; exact (HLV.out hgd)
          have HCO : Hid (coversL f (ps.map Int.toNat) = onceC ((leaves f (f.length + 1) (startW f.length (ps.map Int.toNat))).map Way.cov) []) := Lib.hid rfl
          generalize (leaves f (f.length + 1) (startW f.length (ps.map Int.toNat))).map Way.cov = T0 at *
          have HCN := Lib.hid hcn
          have HBR := Lib.hid hb0r
          clear hall hgd hps hok hrc hN0 hN1 hrr hcn hb0r hbr hlt HALL
          go_wp2_with fail
          refine Calls.mono HWA.out ?_
          rintro e w5 ⟨v5, xs5, rfl, ho5, hcv5, hb5⟩
          obtain ⟨A5, c5, rfl, hs5⟩ := own_sl ho5
          have hb05 := HBR.out.trans (hb5.mono HBR.out.size)
          have hz5 := hb05.size
          have hcap5 := hs5.cap
          clear HWA ho5 hb5 HBR
          have HS5 := Lib.hid hs5
          have HC5 := Lib.hid hcv5
          clear hs5 hcv5
          go_wp2_with fail
          go_loopw [9, 10] (fun u i wr => ∃ (k : Nat) (xs : List Value) (outs : List Cov), k ≤ T0.length ∧ i = .int .i64 k ∧ outs.length ≤ k ∧ Hid (outs = onceC (T0.take k) []) ∧ wr.ownsRow w5.heap.size 62 4 u outs.length xs ∧ CovsAt wr xs outs ∧ Below w5.heap.size w5 wr) (fun _ i _ => T0.length - (intOf i).toNat)
          case atStart => exact ⟨0, [], [], by omega, rfl, by simp, rfl, World.ownsRow_nil _ _ _ _, CovsAt.nil _, Below.refl _ _⟩
          case round =>
            obtain ⟨k, xs, outs, hk, rfl, hol, HO, hown, hcv, hbr⟩ := hrel
            have hsr := hbr.size
            by_cases hlt : k < T0.length
            · obtain ⟨A0, c0, rfl, hso⟩ := own_sl hown
              have hco := hso.cap
              have hs5r := HS5.out.below hbr (Nat.le_refl _)
              have hc5r := HC5.out.keep (Tch.of_below hbr) (spares_new _ _)
              obtain ⟨b5, o5, D1, d1, D2, d2, rfl, hb5l, q0, q1, q2, q3, tn1, tn2⟩ := rd_cov hs5r.rd hc5r (List.getElem?_eq_getElem hlt)
              have hcn := HCN.out T0[k] (List.getElem_mem hlt)
              have hos : ∀ d ∈ outs, CovN f.length d := fun d hd => by
                rw [HO.out] at hd
                rcases onceC_sub _ _ d hd with h | h
                · cases h
                · exact HCN.out d (List.mem_of_mem_take h)
              have hsn := onceC_snoc T0 k hlt
              rw [← HO.out] at hsn
              have htl1 : (onL T0[k].2.2.1).length ≤ 1000 := Nat.le_trans (onL_len _) (by rw [hcn.1]; omega)
              have htl2 : (onL T0[k].2.2.2).length ≤ 1000 := Nat.le_trans (onL_len _) (by rw [hcn.2]; omega)
              generalize T0[k] = t at *
              replace hb5l : b5 < wr.heap.size := by omega
              have HSN := Lib.hid hsn
              have HCT := Lib.hid hcn
              have HOS := Lib.hid hos
              have HSO := Lib.hid hso
              have HCV := Lib.hid hcv
              have HOW := Lib.hid hown
              have HT1 := Lib.hid tn1
              have HT2 := Lib.hid tn2
              have HBRR := Lib.hid hbr
              have hk1 := tn1.sl.cap
              have hk2 := tn2.sl.cap
              have wk : IntKind.i64.wrap ((k : Int) + 1) = k + 1 := by rw [IntKind.wrap_i64]; omega
              have HQ : Hid (wr.cell? ⟨b5, o5 + k * 4, none⟩ = some (.int .u64 (t.1 : Int)) ∧ wr.cell? ⟨b5, o5 + k * 4 + 1, none⟩ = some (.int .u64 (t.2.1 : Int)) ∧ wr.cell? ⟨b5, o5 + k * 4 + 2, none⟩ = some (.slice D1 (onL t.2.2.1).length d1) ∧ wr.cell? ⟨b5, o5 + k * 4 + 3, none⟩ = some (.slice D2 (onL t.2.2.2).length d2)) := Lib.hid ⟨q0, q1, q2, q3⟩
              clear hsn hcn hos hso hcv hown tn1 tn2 hs5r hc5r q0 q1 q2 q3 hbr HSB2
              go_wp2_with fail
              obtain ⟨Wb, hWb⟩ : ∃ Wb, wr = Wb := ⟨_, rfl⟩
              rw [hWb] at HSO HCV HOW HT1 HT2 HBRR HQ hb5l hsr
              rw [hWb]
              clear hWb
              go_loopw [11, 12] (fun ag j wr => ∃ (i : Nat) (q : Bool), i ≤ outs.length ∧ j = .int .i64 i ∧ ag = .bool q ∧ Hid (q = decide (t ∈ outs.take i)) ∧ Below Wb.heap.size Wb wr) (fun _ j _ => outs.length - (intOf j).toNat)
              case atStart => exact ⟨0, false, by omega, rfl, rfl, by simp [Hid], Below.refl _ _⟩
              case round =>
                obtain ⟨i, q, hi, rfl, rfl, HQI, hbi⟩ := hrel
                have hsi := hbi.size
                by_cases hil : i < outs.length
                · obtain ⟨b0, o0, E1, e1, E2, e2, hA0, hb0l, p0, p1, p2, p3, tm1, tm2⟩ := rd_cov (HSO.out.below hbi (Nat.le_refl _)).rd (HCV.out.keep (Tch.of_below hbi) (spares_new _ _)) (List.getElem?_eq_getElem hil)
                  obtain ⟨q0, q1, q2, q3⟩ := HQ.out
                  replace q0 := (hbi.cell (p := ⟨b5, o5 + k * 4, none⟩) hb5l).trans q0
                  replace q1 := (hbi.cell (p := ⟨b5, o5 + k * 4 + 1, none⟩) hb5l).trans q1
                  replace q2 := (hbi.cell (p := ⟨b5, o5 + k * 4 + 2, none⟩) hb5l).trans q2
                  replace q3 := (hbi.cell (p := ⟨b5, o5 + k * 4 + 3, none⟩) hb5l).trans q3
                  have hoi := HOS.out outs[i] (List.getElem_mem hil)
                  have hsn := mem_snoc outs i hil t
                  rw [← HQI.out] at hsn
                  have hle1 : (onL outs[i].2.2.1).length ≤ 1000 := Nat.le_trans (onL_len _) (by rw [hoi.1]; omega)
                  have hle2 : (onL outs[i].2.2.2).length ≤ 1000 := Nat.le_trans (onL_len _) (by rw [hoi.2]; omega)
                  have hsame := cov_same hoi HCT.out
                  generalize outs[i] = x at *
                  have HSM := Lib.hid hsame
                  have HSN2 := Lib.hid hsn
                  have wi : IntKind.i64.wrap ((i : Int) + 1) = i + 1 := by rw [IntKind.wrap_i64]; omega
                  subst hA0
                  clear hsame hsn hoi
                  cases q
                  · have hbd : Below wr.heap.size wr wr.drew := Below.drew (Below.refl _ _)
                    obtain ⟨wd, hwd⟩ : ∃ wd, wr.drew = wd := ⟨_, rfl⟩
                    rw [hwd] at hbd
                    have HWD := Lib.hid hwd
                    have hbd5 : Below Wb.heap.size Wb wd := hbi.trans (hbd.mono hsi)
                    have hSm := sameR_any (x.1 : Int) (x.2.1 : Int) (t.1 : Int) (t.2.1 : Int) E1 E2 D1 D2 (onL x.2.2.1).length (onL x.2.2.2).length (onL t.2.2.1).length (onL t.2.2.2).length e1 e2 d1 d2 (natI (onL x.2.2.1)) (natI (onL x.2.2.2)) (natI (onL t.2.2.1)) (natI (onL t.2.2.2)) wd wr.heap.size (tm1.sl.below hbd (Nat.le_refl _)) (tm2.sl.below hbd (Nat.le_refl _)) ((HT1.out.below hbi).sl.below hbd (Nat.le_refl _)) ((HT2.out.below hbi).sl.below hbd (Nat.le_refl _)) hbd.size (by simp [natI]) (by simp [natI]) (by simp [natI]) (by simp [natI]) (by omega) (by omega)
                    rw [HSM.out] at hSm
                    have HSame := Lib.hid hSm
                    generalize decide (x = t) = same at *
                    clear hwd hSm tm1 tm2 HSM
                    go_wp2_with fail
                    refine wp_region_held_drew (S := fun w' => w'.cell? ⟨b0, o0 + i * 4, none⟩ = some (.int .u64 (x.1 : Int)) ∧ w'.cell? ⟨b0, o0 + i * 4 + 1, none⟩ = some (.int .u64 (x.2.1 : Int)) ∧ w'.cell? ⟨b0, o0 + i * 4 + 2, none⟩ = some (.slice E1 (onL x.2.2.1).length e1) ∧ w'.cell? ⟨b0, o0 + i * 4 + 3, none⟩ = some (.slice E2 (onL x.2.2.2).length e2) ∧ w'.cell? ⟨b5, o5 + k * 4, none⟩ = some (.int .u64 (t.1 : Int)) ∧ w'.cell? ⟨b5, o5 + k * 4 + 1, none⟩ = some (.int .u64 (t.2.1 : Int)) ∧ w'.cell? ⟨b5, o5 + k * 4 + 2, none⟩ = some (.slice D1 (onL t.2.2.1).length d1) ∧ w'.cell? ⟨b5, o5 + k * 4 + 3, none⟩ = some (.slice D2 (onL t.2.2.2).length d2)) (by kernel_rfl) ⟨p0, p1, p2, p3, q0, q1, q2, q3⟩ (fun hS => ?_)
                    refine wpAnyH_takeD (i := 0) (v := ?_) rfl (by kernel_rfl) (by kernel_rfl) (by kernel_rfl) (fun _ _ _ h => h) (Or.inl ⟨by kernel_rfl, ?_⟩) hS ?_
                    rotate_left 1
                    · (intro w' hSw; (try dsimp only at hSw); go_simp; try (with_reducible rfl))
                    try simp only [Act.put, List.setIfInBounds_toArray, List.set_cons_zero, List.set_cons_succ]
                    refine wpAnyH_takeD (i := 1) (v := ?_) rfl (by kernel_rfl) (by kernel_rfl) (by kernel_rfl) (fun _ _ _ h => h) (Or.inl ⟨by kernel_rfl, ?_⟩) hS ?_
                    rotate_left 1
                    · (intro w' hSw; (try dsimp only at hSw); go_simp; try (with_reducible rfl))
                    try simp only [Act.put, List.setIfInBounds_toArray, List.set_cons_zero, List.set_cons_succ]
                    refine wpAnyH_takeD (i := 2) (v := ?_) rfl (by kernel_rfl) (by kernel_rfl) (by kernel_rfl) (fun _ _ _ h => h) (Or.inl ⟨by kernel_rfl, ?_⟩) hS ?_
                    rotate_left 1
                    · (intro w' hSw; (try dsimp only at hSw); go_simp; try (with_reducible rfl))
                    try simp only [Act.put, List.setIfInBounds_toArray, List.set_cons_zero, List.set_cons_succ]
                    refine wpAnyH_takeD (i := 3) (v := ?_) rfl (by kernel_rfl) (by kernel_rfl) (by kernel_rfl) (fun _ _ _ h => h) (Or.inl ⟨by kernel_rfl, ?_⟩) hS ?_
                    rotate_left 1
                    · (intro w' hSw; (try dsimp only at hSw); go_simp; try (with_reducible rfl))
                    try simp only [Act.put, List.setIfInBounds_toArray, List.set_cons_zero, List.set_cons_succ]
                    refine wpAnyH_takeD (i := 4) (v := ?_) rfl (by kernel_rfl) (by kernel_rfl) (by kernel_rfl) (fun _ _ _ h => h) (Or.inl ⟨by kernel_rfl, ?_⟩) hS ?_
                    rotate_left 1
                    · (intro w' hSw; (try dsimp only at hSw); go_simp; try (with_reducible rfl))
                    try simp only [Act.put, List.setIfInBounds_toArray, List.set_cons_zero, List.set_cons_succ]
                    refine wpAnyH_takeD (i := 5) (v := ?_) rfl (by kernel_rfl) (by kernel_rfl) (by kernel_rfl) (fun _ _ _ h => h) (Or.inl ⟨by kernel_rfl, ?_⟩) hS ?_
                    rotate_left 1
                    · (intro w' hSw; (try dsimp only at hSw); go_simp; try (with_reducible rfl))
                    try simp only [Act.put, List.setIfInBounds_toArray, List.set_cons_zero, List.set_cons_succ]
                    refine wpAnyH_takeD (i := 6) (v := ?_) rfl (by kernel_rfl) (by kernel_rfl) (by kernel_rfl) (fun _ _ _ h => h) (Or.inl ⟨by kernel_rfl, ?_⟩) hS ?_
                    rotate_left 1
                    · (intro w' hSw; (try dsimp only at hSw); go_simp; try (with_reducible rfl))
                    try simp only [Act.put, List.setIfInBounds_toArray, List.set_cons_zero, List.set_cons_succ]
                    refine wpAnyH_takeD (i := 7) (v := ?_) rfl (by kernel_rfl) (by kernel_rfl) (by kernel_rfl) (fun _ _ _ h => h) (Or.inl ⟨by kernel_rfl, ?_⟩) hS ?_
                    rotate_left 1
                    · (intro w' hSw; (try dsimp only at hSw); go_simp; try (with_reducible rfl))
                    try simp only [Act.put, List.setIfInBounds_toArray, List.set_cons_zero, List.set_cons_succ]
                    refine wpAnyH_takeD (i := 8) (v := ?_) rfl (by kernel_rfl) (by kernel_rfl) (by kernel_rfl) (fun _ _ _ h => h) (Or.inl ⟨by kernel_rfl, ?_⟩) hS ?_
                    rotate_left 1
                    · (intro w' hSw; (try dsimp only at hSw); go_simp; try (with_reducible rfl))
                    try simp only [Act.put, List.setIfInBounds_toArray, List.set_cons_zero, List.set_cons_succ]
                    refine wpAnyH_takeD (i := 9) (v := ?_) rfl (by kernel_rfl) (by kernel_rfl) (by kernel_rfl) (fun _ _ _ h => h) (Or.inl ⟨by kernel_rfl, ?_⟩) hS ?_
                    rotate_left 1
                    · (intro w' hSw; (try dsimp only at hSw); go_simp; try (with_reducible rfl))
                    try simp only [Act.put, List.setIfInBounds_toArray, List.set_cons_zero, List.set_cons_succ]
                    refine wpAnyH_oneD (i := 10) rfl (by kernel_rfl) (fun K hK => ?_)
                    rw [if_pos (by kernel_rfl)]
                    go_simp
                    rw [HWD.out]
                    refine Calls.mono HSame.out ?_
                    rintro e wx ⟨rfl, hbx'⟩
                    have hbx : Below wr.heap.size wr wx := hbd.trans (hbx'.mono hbd.size)
                    clear hbx'
                    dsimp only
                    refine hK.out _ _ ⟨(hbx.cell (p := ⟨b0, o0 + i * 4, none⟩) (show b0 < wr.heap.size by omega)).trans p0, (hbx.cell (p := ⟨b0, o0 + i * 4 + 1, none⟩) (show b0 < wr.heap.size by omega)).trans p1, (hbx.cell (p := ⟨b0, o0 + i * 4 + 2, none⟩) (show b0 < wr.heap.size by omega)).trans p2, (hbx.cell (p := ⟨b0, o0 + i * 4 + 3, none⟩) (show b0 < wr.heap.size by omega)).trans p3, (hbx.cell (p := ⟨b5, o5 + k * 4, none⟩) (show b5 < wr.heap.size by omega)).trans q0, (hbx.cell (p := ⟨b5, o5 + k * 4 + 1, none⟩) (show b5 < wr.heap.size by omega)).trans q1, (hbx.cell (p := ⟨b5, o5 + k * 4 + 2, none⟩) (show b5 < wr.heap.size by omega)).trans q2, (hbx.cell (p := ⟨b5, o5 + k * 4 + 3, none⟩) (show b5 < wr.heap.size by omega)).trans q3⟩ (fun hS => ?_)
                    clear hK
                    try simp only [Act.put, List.setIfInBounds_toArray, List.set_cons_zero, List.set_cons_succ]
                    refine wpAnyH_takeD (i := 11) (v := ?_) rfl (by kernel_rfl) (by kernel_rfl) (by kernel_rfl) (fun _ _ _ h => h) (Or.inl ⟨by kernel_rfl, ?_⟩) hS ?_
                    rotate_left 1
                    · (intro w' hSw; (try dsimp only at hSw); go_simp; try (with_reducible rfl))
                    try simp only [Act.put, List.setIfInBounds_toArray, List.set_cons_zero, List.set_cons_succ]
                    refine wpAnyH_takeD (i := 12) (v := ?_) rfl (by kernel_rfl) (by kernel_rfl) (by kernel_rfl) (fun _ _ _ h => h) (Or.inl ⟨by kernel_rfl, ?_⟩) hS ?_
                    rotate_left 1
                    · (intro w' hSw; (try dsimp only at hSw); go_simp; try (with_reducible rfl))
                    try simp only [Act.put, List.setIfInBounds_toArray, List.set_cons_zero, List.set_cons_succ]
                    refine wpAnyH_done (by kernel_rfl) ?_ _
                    go_wp2_with fail
                    go_roundw
                    case rel => exact ⟨i + 1, same, by omega, by go_num, rfl, by show _ = _; rw [HSN2.out]; rfl, hbi.trans (hbx.mono hsi)⟩
                    case measure => simp [intOf]; omega
                  · have hbd : Below wr.heap.size wr wr.drew := Below.drew (Below.refl _ _)
                    clear HSM tm1 tm2
                    go_wp2_with fail
                    refine wp_region_held_drew (S := fun w' => w'.cell? ⟨b0, o0 + i * 4, none⟩ = some (.int .u64 (x.1 : Int)) ∧ w'.cell? ⟨b0, o0 + i * 4 + 1, none⟩ = some (.int .u64 (x.2.1 : Int)) ∧ w'.cell? ⟨b0, o0 + i * 4 + 2, none⟩ = some (.slice E1 (onL x.2.2.1).length e1) ∧ w'.cell? ⟨b0, o0 + i * 4 + 3, none⟩ = some (.slice E2 (onL x.2.2.2).length e2) ∧ w'.cell? ⟨b5, o5 + k * 4, none⟩ = some (.int .u64 (t.1 : Int)) ∧ w'.cell? ⟨b5, o5 + k * 4 + 1, none⟩ = some (.int .u64 (t.2.1 : Int)) ∧ w'.cell? ⟨b5, o5 + k * 4 + 2, none⟩ = some (.slice D1 (onL t.2.2.1).length d1) ∧ w'.cell? ⟨b5, o5 + k * 4 + 3, none⟩ = some (.slice D2 (onL t.2.2.2).length d2)) (by kernel_rfl) ⟨p0, p1, p2, p3, q0, q1, q2, q3⟩ (fun hS => ?_)
                    refine wpAnyH_takeD (i := 0) (v := ?_) rfl (by kernel_rfl) (by kernel_rfl) (by kernel_rfl) (fun _ _ _ h => h) (Or.inl ⟨by kernel_rfl, ?_⟩) hS ?_
                    rotate_left 1
                    · (intro w' hSw; (try dsimp only at hSw); go_simp; try (with_reducible rfl))
                    try simp only [Act.put, List.setIfInBounds_toArray, List.set_cons_zero, List.set_cons_succ]
                    refine wpAnyH_takeD (i := 1) (v := ?_) rfl (by kernel_rfl) (by kernel_rfl) (by kernel_rfl) (fun _ _ _ h => h) (Or.inl ⟨by kernel_rfl, ?_⟩) hS ?_
                    rotate_left 1
                    · (intro w' hSw; (try dsimp only at hSw); go_simp; try (with_reducible rfl))
                    try simp only [Act.put, List.setIfInBounds_toArray, List.set_cons_zero, List.set_cons_succ]
                    refine wpAnyH_takeD (i := 2) (v := undef) rfl (by kernel_rfl) (by kernel_rfl) (by kernel_rfl) (fun _ _ _ h => h) (Or.inr ⟨by kernel_rfl, rfl⟩) hS ?_
                    try simp only [Act.put, List.setIfInBounds_toArray, List.set_cons_zero, List.set_cons_succ]
                    refine wpAnyH_takeD (i := 3) (v := undef) rfl (by kernel_rfl) (by kernel_rfl) (by kernel_rfl) (fun _ _ _ h => h) (Or.inr ⟨by kernel_rfl, rfl⟩) hS ?_
                    try simp only [Act.put, List.setIfInBounds_toArray, List.set_cons_zero, List.set_cons_succ]
                    refine wpAnyH_takeD (i := 4) (v := undef) rfl (by kernel_rfl) (by kernel_rfl) (by kernel_rfl) (fun _ _ _ h => h) (Or.inr ⟨by kernel_rfl, rfl⟩) hS ?_
                    try simp only [Act.put, List.setIfInBounds_toArray, List.set_cons_zero, List.set_cons_succ]
                    refine wpAnyH_takeD (i := 5) (v := undef) rfl (by kernel_rfl) (by kernel_rfl) (by kernel_rfl) (fun _ _ _ h => h) (Or.inr ⟨by kernel_rfl, rfl⟩) hS ?_
                    try simp only [Act.put, List.setIfInBounds_toArray, List.set_cons_zero, List.set_cons_succ]
                    refine wpAnyH_takeD (i := 6) (v := undef) rfl (by kernel_rfl) (by kernel_rfl) (by kernel_rfl) (fun _ _ _ h => h) (Or.inr ⟨by kernel_rfl, rfl⟩) hS ?_
                    try simp only [Act.put, List.setIfInBounds_toArray, List.set_cons_zero, List.set_cons_succ]
                    refine wpAnyH_takeD (i := 7) (v := undef) rfl (by kernel_rfl) (by kernel_rfl) (by kernel_rfl) (fun _ _ _ h => h) (Or.inr ⟨by kernel_rfl, rfl⟩) hS ?_
                    try simp only [Act.put, List.setIfInBounds_toArray, List.set_cons_zero, List.set_cons_succ]
                    refine wpAnyH_takeD (i := 8) (v := undef) rfl (by kernel_rfl) (by kernel_rfl) (by kernel_rfl) (fun _ _ _ h => h) (Or.inr ⟨by kernel_rfl, rfl⟩) hS ?_
                    try simp only [Act.put, List.setIfInBounds_toArray, List.set_cons_zero, List.set_cons_succ]
                    refine wpAnyH_takeD (i := 9) (v := undef) rfl (by kernel_rfl) (by kernel_rfl) (by kernel_rfl) (fun _ _ _ h => h) (Or.inr ⟨by kernel_rfl, rfl⟩) hS ?_
                    try simp only [Act.put, List.setIfInBounds_toArray, List.set_cons_zero, List.set_cons_succ]
                    refine wpAnyH_takeD (i := 10) (v := undef) rfl (by kernel_rfl) (by kernel_rfl) (by kernel_rfl) (fun _ _ _ h => h) (Or.inr ⟨by kernel_rfl, rfl⟩) hS ?_
                    try simp only [Act.put, List.setIfInBounds_toArray, List.set_cons_zero, List.set_cons_succ]
                    refine wpAnyH_takeD (i := 11) (v := ?_) rfl (by kernel_rfl) (by kernel_rfl) (by kernel_rfl) (fun _ _ _ h => h) (Or.inl ⟨by kernel_rfl, ?_⟩) hS ?_
                    rotate_left 1
                    · (intro w' hSw; (try dsimp only at hSw); go_simp; try (with_reducible rfl))
                    try simp only [Act.put, List.setIfInBounds_toArray, List.set_cons_zero, List.set_cons_succ]
                    refine wpAnyH_takeD (i := 12) (v := ?_) rfl (by kernel_rfl) (by kernel_rfl) (by kernel_rfl) (fun _ _ _ h => h) (Or.inl ⟨by kernel_rfl, ?_⟩) hS ?_
                    rotate_left 1
                    · (intro w' hSw; (try dsimp only at hSw); go_simp; try (with_reducible rfl))
                    try simp only [Act.put, List.setIfInBounds_toArray, List.set_cons_zero, List.set_cons_succ]
                    refine wpAnyH_done (by kernel_rfl) ?_ _
                    go_wp2_with fail
                    go_roundw
                    case rel => exact ⟨i + 1, true, by omega, by go_num, rfl, by show _ = _; rw [HSN2.out]; rfl, hbi.trans (hbd.mono hsi)⟩
                    case measure => simp [intOf]; omega
                · have hil2 : i = outs.length := by omega
                  subst hil2
                  rw [List.take_of_length_le (Nat.le_refl _)] at HQI
                  have hbr5 := HBRR.out.trans (hbi.mono hsr)
                  have hown2 := own_below HOW.out hbi
                  have hcv2 := HCV.out.keep (Tch.of_below hbi) (spares_new _ _)
                  cases q
                  · have hst : addC outs t = outs ++ [t] := by
                      unfold addC; rw [if_neg (by simpa using HQI.out.symm)]
                    have HST := Lib.hid hst
                    obtain ⟨q0, q1, q2, q3⟩ := HQ.out
                    replace q0 := (hbi.cell (p := ⟨b5, o5 + k * 4, none⟩) hb5l).trans q0
                    replace q1 := (hbi.cell (p := ⟨b5, o5 + k * 4 + 1, none⟩) hb5l).trans q1
                    replace q2 := (hbi.cell (p := ⟨b5, o5 + k * 4 + 2, none⟩) hb5l).trans q2
                    replace q3 := (hbi.cell (p := ⟨b5, o5 + k * 4 + 3, none⟩) hb5l).trans q3
                    have htu1 := HT1.out.below hbi
                    have htu2 := HT2.out.below hbi
                    have HTU1 := Lib.hid htu1
                    have HTU2 := Lib.hid htu2
                    have HOW2 := Lib.hid hown2
                    have HCV2 := Lib.hid hcv2
                    have hbr5z := hbr5.size
                    clear hst htu1 htu2 hown2 hcv2
                    go_wp2_with (at_builtin
                                 refine wpList_push rfl (.tmp 77) (.tmp 82) 58 rfl w5.heap.size 62 4 64 sliceCovR _ _ _ (HOW2.out.alloc _) rfl wr.heap.size #[.int .u64 (t.1 : Int), .int .u64 (t.2.1 : Int), .slice D1 (onL t.2.2.1).length d1, .slice D2 (onL t.2.2.2).length d2] rfl (heap_alloc_new wr _) rfl (by intro u hu; simp at hu; rcases hu with rfl | rfl | rfl | rfl <;> rfl) (by omega) (by omega) (by simp; omega) ?_
                                 intro v9 w9 hown9 ht9 hat9 hne9)
                    go_roundw
                    case rel =>
                      have hba : Below wr.heap.size wr (wr.alloc (.cells #[.int .u64 (t.1 : Int), .int .u64 (t.2.1 : Int), .slice D1 (onL t.2.2.1).length d1, .slice D2 (onL t.2.2.2).length d2] 62)) := (Below.refl _ _).alloc (Nat.le_refl _) _
                      have hsp := spares_own (HOW2.out.alloc (.cells #[.int .u64 (t.1 : Int), .int .u64 (t.2.1 : Int), .slice D1 (onL t.2.2.1).length d1, .slice D2 (onL t.2.2.2).length d2] 62)) (t := 3) (by decide)
                      refine ⟨k + 1, xs ++ [.int .u64 (t.1 : Int), .int .u64 (t.2.1 : Int), .slice D1 (onL t.2.2.1).length d1, .slice D2 (onL t.2.2.2).length d2], outs ++ [t], by omega, by go_num, by simp; omega, by show _ = _; rw [HSN.out, HST.out], ?_, ?_, ?_⟩
                      · rw [show (outs ++ [t]).length = outs.length + 1 by simp]; exact hown9
                      · exact (HCV2.out.keep (Tch.of_below hba) (spares_new _ _)).keep ht9 hsp |>.push HOW2.out.1 t (((HTU1.out.below hba).keep ht9 hsp)) (((HTU2.out.below hba).keep ht9 hsp))
                      · exact (hbr5.alloc hbr5z _).trans (ht9.below (by simp; omega) (fun g hg h => by have := (HOW2.out.lt g h).1; omega))
                    case measure => simp [intOf]; omega
                  · have hst : addC outs t = outs := by
                      unfold addC; rw [if_pos (by simpa using HQI.out.symm)]
                    have HST := Lib.hid hst
                    clear hst
                    go_wp2_with fail
                    go_roundw
                    case rel => exact ⟨k + 1, xs, outs, by omega, by go_num, by omega, by show _ = _; rw [HSN.out, HST.out], hown2, hcv2, hbr5⟩
                    case measure => simp [intOf]; omega
            · have hkl : k = T0.length := by omega
              subst hkl
              rw [List.take_of_length_le (Nat.le_refl _)] at HO
              go_wp2_with fail
              go_ret
              rw [HA.out, HCO.out, ← HO.out]
              exact ⟨_, xs, rfl, own_base hown hz5, hcv, hb05.trans (hbr.mono hz5)⟩
end Go.Proofs.YtamhjgkigjpbhaaDoor

/- (XCr5) The walk of layer 28's reference: Meets. -/
namespace Go.Proofs.YtamhjgkigjpbhaaDoor
open Go.RowKit

set_option maxHeartbeats 4000000 in
set_option maxRecDepth 100000 in
theorem meetsR_any (A : Option Addr) (c : Nat) (f : List Nd) (need ban : Int) (v2 : Value) (A4 : Option Addr) (n4 c4 : Nat) (now : List Int) (w : World) (B : Nat) (hf : Sl w B 2 A f.length c (ncells f)) (h4 : Sl w B 1 A4 n4 c4 (icells now)) (hn : n4 = now.length) (hB : B ≤ w.heap.size) (hl : f.length ≤ 1000000) (hl4 : n4 ≤ 1000000) :
    Calls Tryd.prog 25 #[.slice A f.length c, .agg #[.int .u64 need, .int .u64 ban, v2, .slice A4 n4 c4]] w (U64P w (meetsN f now)) := by
  have hb0 : Below w.heap.size w (w.alloc (.cells #[.int .u64 need, .int .u64 ban, v2, .slice A4 n4 c4] 62)) := (Below.refl _ _).alloc (Nat.le_refl _) _
  have hx0 := heap_alloc_new w (.cells #[.int .u64 need, .int .u64 ban, v2, .slice A4 n4 c4] 62)
  have hxz : (w.alloc (.cells #[.int .u64 need, .int .u64 ban, v2, .slice A4 n4 c4] 62)).heap.size = w.heap.size + 1 := by simp
  obtain ⟨W0, hW0⟩ : ∃ W0, w.alloc (.cells #[.int .u64 need, .int .u64 ban, v2, .slice A4 n4 c4] 62) = W0 := ⟨_, rfl⟩
  rw [hW0] at hb0 hx0 hxz
  have HW0 := Lib.hid hW0
  clear hW0
  have HI := Lib.hid (IsR_any A c f W0 B (hf.below hb0 hB) (Nat.le_trans hB hb0.size) (by omega))
  have hcf := hf.cap
  have hc4 := h4.cap
  cases hN : isN f
  · have HM : Hid (meetsN f now = 0) := Lib.hid (by unfold meetsN; rw [hN]; rfl)
    rw [hN] at HI
    clear hN hf h4 hn
    go_enter Tryd.func25, Tryd.ntmps25
    go_wp2_with fail
    rw [HW0.out]
    go_wp2_with fail
    refine Calls.mono HI.out ?_
    rintro e w1 ⟨rfl, hb1⟩
    have hb01 := hb0.trans (hb1.mono (by omega))
    go_wp2
    go_ret
    exact ⟨by rw [HM.out]; rfl, hb01⟩
  · have HM : Hid (meetsN f now = (meetsA now (utl 0 f)).2) := Lib.hid (by unfold meetsN; rw [if_pos hN])
    have HCon := Lib.hid (fun (z : Int) (w' : World) (hb : Below w.heap.size w w') => inR_any A4 n4 c4 now z w' B hn (h4.below hb hB) (Nat.le_trans hB hb.size) (by omega))
    rw [hN] at HI
    have HF := Lib.hid hf
    generalize meetsN f now = mm at *
    clear hN hf h4 hn
    go_enter Tryd.func25, Tryd.ntmps25
    go_wp2_with fail
    rw [HW0.out]
    go_wp2_with fail
    refine Calls.mono HI.out ?_
    rintro e w1 ⟨rfl, hb1⟩
    have hb01 := hb0.trans (hb1.mono (by omega))
    have hx1 := (hb1.block w.heap.size (by omega)).trans hx0
    clear HI hx0 hb1 hb0
    have hz1 := hb01.size
    have hzz := heap_lt hx1
    go_wp2_with fail
    go_loopw [5, 6, 7] (fun u m i wr => ∃ k : Nat, k ≤ f.length ∧ i = .int .i64 k ∧ Below w1.heap.size w1 wr ∧ ∃ q p : Nat, u = .int .u64 q ∧ m = .int .i64 p ∧ p ≤ k ∧ q < 18446744073709551616 ∧ Hid (q = (meetsA now (utl 0 (f.take k))).2) ∧ Hid (p = (utl 0 (f.take k)).length)) (fun _ _ i _ => f.length - (intOf i).toNat)
    case atStart => exact ⟨0, by omega, rfl, Below.refl _ _, 0, 0, rfl, rfl, by omega, by omega, rfl, rfl⟩
    case round =>
      obtain ⟨k, hk, rfl, hbr, q, p, rfl, rfl, hpk, hq, HQ, HP⟩ := hrel
      have hsw := hbr.size
      by_cases hlt : k < f.length
      · have hsn := utl_snoc hlt
        obtain ⟨bb, o, rfl, hbb, hc0, hc1⟩ := rd_nd HF.out.rd hlt
        have hb0r : Below w.heap.size w wr := hb01.trans (hbr.mono hz1)
        have h9 := (hb0r.cell (p := ⟨bb, o + k * 2, none⟩) (show bb < w.heap.size by omega)).trans hc0
        have wk : IntKind.i64.wrap ((k : Int) + 1) = k + 1 := by rw [IntKind.wrap_i64]; omega
        have wk1 : IntKind.i64.wrap ((k : Int) - 1) = k - 1 := by rw [IntKind.wrap_i64]; omega
        have wp1 : IntKind.i64.wrap ((p : Int) + 1) = p + 1 := by rw [IntKind.wrap_i64]; omega
        generalize f[k].op = op at *
        clear hc0 hc1
        by_cases hop : op = 9
        · subst hop
          rw [if_pos rfl] at hsn
          have HSN := Lib.hid hsn
          clear hsn
          have hxr := (hbr.block w.heap.size (by omega)).trans hx1
          have g3 : wr.cell? ⟨w.heap.size, 3, none⟩ = some (.slice A4 n4 c4) := by rw [cell_of_row _ _ 3 _ _ (0, 0) hxr]; rfl
          have HP1 : Hid (p + 1 = (utl 0 (f.take (k + 1))).length) := Lib.hid (by rw [HSN.out, List.length_append, ← HP.out]; rfl)
          by_cases h64 : p < 64
          · have d64 : decide ((p : Int) < 64) = true := by simp; omega
            have HSH : IntKind.u64.wrap (2 ^ p) = ((2 ^ p : Nat) : Int) := wrap_pow64 h64
            have hpw : IntKind.u64.wrap (p : Int) = (p : Int) := by rw [IntKind.wrap_u64]; omega
            have hpk : 2 ^ p < 18446744073709551616 := by have : 2 ^ p ≤ 2 ^ 63 := Nat.pow_le_pow_right (by omega) (by omega); omega
            have hor := or_u64 (x := q) (y := 2 ^ p) (by omega) (by omega)
            have hqn : q ||| 2 ^ p < 18446744073709551616 := Nat.or_lt_two_pow (n := 64) (by omega) (by omega)
            have HY : Hid (metB now (k : Int) = true → q ||| 2 ^ p = (meetsA now (utl 0 (f.take (k + 1)))).2) := Lib.hid (fun h => by
              rw [HSN.out, meetsA_yes (by rw [← HP.out]; exact h64) h, ← HP.out, HQ.out])
            have HNo : Hid (metB now (k : Int) = false → q = (meetsA now (utl 0 (f.take (k + 1)))).2) := Lib.hid (fun h => by
              rw [HSN.out, meetsA_no h, HQ.out])
            generalize 2 ^ p = pk at *
            generalize hqq : q ||| pk = qq at *
            have HC1 := Lib.hid (HCon.out (k : Int) wr hb0r)
            clear hqq
            cases hB1 : now.any ((k : Int) == ·)
            · rw [hB1] at HC1
              have HB1 := Lib.hid hB1
              clear hB1
              go_wp2_with fail
              refine Calls.mono HC1.out ?_
              rintro e w4 ⟨rfl, hb4⟩
              go_wp2_with fail
              go_roundw
              case rel => exact ⟨k + 1, by omega, by go_num, hbr.trans (hb4.mono hbr.size), qq, p + 1, rfl, by go_num, by omega, hqn, HY.out (by unfold metB; rw [HB1.out]; rfl), HP1⟩
              case measure => simp [intOf]; omega
            · rw [hB1] at HC1
              have HB1 := Lib.hid hB1
              clear hB1
              go_wp2_with fail
              refine Calls.mono HC1.out ?_
              rintro e w4 ⟨rfl, hb4⟩
              have hbr4 := hbr.trans (hb4.mono hbr.size)
              have hb04 := hb0r.trans (hb4.mono hb0r.size)
              have g4 := (hb4.cell (p := ⟨w.heap.size, 3, none⟩) (by show w.heap.size < wr.heap.size; omega)).trans g3
              have HC2 := Lib.hid (HCon.out ((k : Int) - 1) w4 hb04)
              clear g3
              cases hB2 : now.any ((k : Int) - 1 == ·)
              · rw [hB2] at HC2
                have HB2 := Lib.hid hB2
                clear hB2
                go_wp2_with fail
                refine Calls.mono HC2.out ?_
                rintro e w5 ⟨rfl, hb5⟩
                go_wp2_with fail
                go_roundw
                case rel => exact ⟨k + 1, by omega, by go_num, hbr4.trans (hb5.mono hbr4.size), q, p + 1, rfl, by go_num, by omega, hq, HNo.out (by unfold metB; rw [HB1.out, HB2.out]; rfl), HP1⟩
                case measure => simp [intOf]; omega
              · rw [hB2] at HC2
                have HB2 := Lib.hid hB2
                clear hB2
                go_wp2_with fail
                refine Calls.mono HC2.out ?_
                rintro e w5 ⟨rfl, hb5⟩
                go_wp2_with fail
                go_roundw
                case rel => exact ⟨k + 1, by omega, by go_num, hbr4.trans (hb5.mono hbr4.size), qq, p + 1, rfl, by go_num, by omega, hqn, HY.out (by unfold metB; rw [HB1.out, HB2.out]; rfl), HP1⟩
                case measure => simp [intOf]; omega
          · have d64 : decide ((p : Int) < 64) = false := by simp; omega
            have HN : Hid (q = (meetsA now (utl 0 (f.take (k + 1)))).2) := Lib.hid (by rw [HSN.out, meetsA_far (by rw [← HP.out]; omega), HQ.out])
            go_wp2_with fail
            go_roundw
            case rel => exact ⟨k + 1, by omega, by go_num, hbr, q, p + 1, rfl, by go_num, by omega, hq, HN, HP1⟩
            case measure => simp [intOf]; omega
        · rw [if_neg hop, List.append_nil] at hsn
          have HSN := Lib.hid hsn
          have d9 : (op != 9) = true := by simpa using hop
          clear hsn hop
          go_wp2_with fail
          go_roundw
          case rel => exact ⟨k + 1, by omega, by go_num, hbr, q, p, rfl, rfl, by omega, hq, by show _ = _; rw [HSN.out]; exact HQ.out, by show _ = _; rw [HSN.out]; exact HP.out⟩
          case measure => simp [intOf]; omega
      · have hkl : k = f.length := by omega
        subst hkl
        rw [List.take_of_length_le (Nat.le_refl _)] at HQ
        go_wp2
        go_ret
        exact ⟨by rw [HM.out, ← HQ.out]; rfl, hb01.trans (hbr.mono hz1)⟩
end Go.Proofs.YtamhjgkigjpbhaaDoor
