/- The walks of layer 28's reference: in, put, ahead. -/
import Derived.Test.YtedohmcnjlhdnaaCv9
namespace Go.Proofs.Ytedohmcnjlhdnaa
open Go.RowKit

theorem any_flip (l : List Int) (z : Int) : l.any (· == z) = l.any (z == ·) := by
  rw [Bool.eq_iff_iff]; simp only [List.any_eq_true, beq_iff_eq]
  exact ⟨fun ⟨x, h, e⟩ => ⟨x, h, e.symm⟩, fun ⟨x, h, e⟩ => ⟨x, h, e.symm⟩⟩
set_option maxHeartbeats 1000000 in
theorem inR_any (A : Option Addr) (n c : Nat) (l : List Int) (z : Int) (w : World) (B : Nat) (hn : n = l.length) (hs : Sl w B 1 A n c (icells l)) (hB : B ≤ w.heap.size) (hl : n ≤ 100000000000) :
    Calls Try.prog 53 #[.slice A n c, .int .i64 z] w (Tru w (l.any (z == ·))) := by
  rw [← any_flip]
  subst hn
  go_enter Try.func53, Try.ntmps53
  go_wp2
  go_loopw [5] (fun i wr => ∃ k : Nat, k ≤ l.length ∧ i = .int .i64 k ∧ Below w.heap.size w wr ∧ Hid ((l.take k).any (· == z) = false)) (fun i _ => l.length - (intOf i).toNat)
  case atStart => exact ⟨0, by omega, rfl, Below.refl _ _, rfl⟩
  case round =>
    obtain ⟨k, hk, rfl, hbr, HA⟩ := hrel
    have hsw := hbr.size
    by_cases hlt : k < l.length
    · obtain ⟨bb, o, rfl, _, hc0⟩ := (hs.rd.below hbr hB).at_ (icells_at' hlt)
      have hsn : (l.take (k + 1)).any (· == z) = (l[k] == z) := by rw [take_snoc l k hlt, List.any_append, HA.out]; simp
      have hyes : (l[k] == z) = true → l.any (· == z) = true := fun h => List.any_eq_true.2 ⟨l[k], List.getElem_mem hlt, h⟩
      generalize l[k] = x at *
      have HS := Lib.hid hsn
      have HY := Lib.hid hyes
      clear hsn hyes
      cases hb : (x == z)
      · have HB := Lib.hid hb
        go_wp2
        go_roundw
        case rel => exact ⟨k + 1, by omega, by go_num, hbr, by show _ = _; rw [HS.out]; exact HB.out⟩
        case measure => simp [intOf]; omega
      · have HB := Lib.hid hb
        go_wp2
        go_ret
        exact ⟨by rw [HY.out HB.out]; rfl, hbr⟩
    · have hkl : k = l.length := by omega
      subst hkl
      rw [List.take_of_length_le (Nat.le_refl _)] at HA
      go_wp2
      go_ret
      exact ⟨by rw [HA.out]; rfl, hbr⟩

def OwnI (w : World) (l : List Nat) (en : Ending) (w' : World) : Prop := ∃ v, en = .returned v ∧ w'.ownsRow w.heap.size 3 1 v l.length (icells (natI l)) ∧ Below w.heap.size w w'
theorem natI_any (l : List Nat) (i : Nat) : (natI l).any ((i : Int) == ·) = decide (i ∈ l) := by
  rw [Bool.eq_iff_iff]; simp only [natI, List.any_map, List.any_eq_true, Function.comp_apply, beq_iff_eq, decide_eq_true_eq]
  exact ⟨fun ⟨x, h, e⟩ => by rw [show i = x by omega]; exact h, fun h => ⟨i, h, rfl⟩⟩
theorem cfold_snoc {n : Nat} {l : List Nat} {k : Nat} (hk : k < l.length) (s : List Nat × Bool) : cfold n (l.take (k + 1)) s = cstep n (cfold n (l.take k) s) l[k] := by
  unfold cfold; rw [take_snoc l k hk, List.foldl_append]; rfl
theorem cfold_len (n : Nat) : ∀ (l : List Nat) (s : List Nat × Bool), (cfold n l s).1.length ≤ s.1.length + 2 * l.length
  | [], s => by simp [cfold]
  | x :: l, s => by
    have h := cfold_len n l (cstep n s x)
    have : (cstep n s x).1.length ≤ s.1.length + 2 := by unfold cstep; split <;> simp
    show (cfold n l (cstep n s x)).1.length ≤ _
    simp only [List.length_cons]; omega
set_option maxHeartbeats 4000000 in
set_option maxRecDepth 100000 in
theorem putR_any (A : Option Addr) (m c : Nat) (l : List Nat) (n : Nat) (w : World) (B : Nat) (hm : m = l.length) (hs : Sl w B 1 A m c (icells (natI l))) (hB : B ≤ w.heap.size) (hl : m ≤ 1000000) :
    Calls Try.prog 66 #[.slice A m c, .int .i64 (n : Int)] w (OwnI w (putF l n)) := by
  subst hm
  have HP : Hid (putF l n = if (cfold n l ([], decide (n ∈ l))).2 = true then (cfold n l ([], decide (n ∈ l))).1 else (cfold n l ([], decide (n ∈ l))).1 ++ [n]) := Lib.hid rfl
  have HI := Lib.hid (inR_any A l.length c (natI l) n w B (by simp [natI]) hs hB (by omega))
  rw [natI_any] at HI
  generalize decide (n ∈ l) = d0 at *
  go_enter Try.func66, Try.ntmps66
  go_wp2_with fail
  refine Calls.mono HI.out ?_
  rintro e w1 ⟨rfl, hb1⟩
  have hz1 := hb1.size
  clear HI
  go_wp2_with fail
  go_loopw [5, 6, 7] (fun u d i wr => ∃ k : Nat, k ≤ l.length ∧ i = .int .i64 k ∧ ∃ (acc : List Nat) (done : Bool), Hid (cfold n (l.take k) ([], d0) = (acc, done)) ∧ acc.length ≤ 2 * k ∧ d = .bool done ∧ wr.ownsRow w.heap.size 3 1 u acc.length (icells (natI acc)) ∧ Below w.heap.size w wr) (fun _ _ i _ => l.length - (intOf i).toNat)
  case atStart => exact ⟨0, by omega, rfl, [], d0, rfl, by simp, rfl, World.ownsRow_nil _ _ _ _, hb1⟩
  case round =>
    obtain ⟨k, hk, rfl, acc, done, HF, hal, rfl, hu, hbr⟩ := hrel
    have hsw := hbr.size
    by_cases hlt : k < l.length
    · obtain ⟨bb, o, rfl, hbb, hcw⟩ := hs.rd.at_ (icells_at' (l := natI l) (k := k) (by simp [natI]; exact hlt))
      have hsn := cfold_snoc (n := n) hlt ([], d0)
      rw [HF.out] at hsn
      rw [show (natI l)[k]'(by simp [natI]; exact hlt) = (l[k] : Int) by simp [natI]] at hcw
      generalize l[k] = x at *
      have HS := Lib.hid hsn
      have HW := Lib.hid hcw
      clear hsn
      have hc0 := (hbr.cell (p := ⟨bb, o + k, none⟩) (show bb < w.heap.size by omega)).trans hcw
      clear hcw
      by_cases hgo : done = false ∧ n < x
      · obtain ⟨rfl, hnx⟩ := hgo
        have hst : cstep n (acc, false) x = (acc ++ [n, x], true) := by simp [cstep, hnx]
        have HST := Lib.hid hst
        have dgt : decide ((n : Int) < (x : Int)) = true := by simp; omega
        clear hst
        go_wp2_with (at_builtin; first
          | (refine wpList_push rfl (.tmp 27) (.tmp 29) 28 rfl w.heap.size 3 1 8 sliceInt _ _ _ (hu.alloc _) rfl wr.heap.size #[.int .i64 n] rfl (heap_alloc_new wr _) rfl (by simp [Value.oneCell']) (by omega) (by omega) (by simp; omega) ?_
             intro v3 w3 hown3 ht3 hat3 hne3
             have hz3 := ht3.size
             simp only [World.size_alloc] at hz3
             have hb3 : Below w.heap.size w w3 := (hbr.alloc hsw _).trans (ht3.below (by simp; omega) (fun g hg h => by have := (hu.lt g h).1; omega))
             have hc3 := (hb3.cell (p := ⟨bb, o + k, none⟩) (show bb < w.heap.size by omega)).trans HW.out
             clear ht3 hc0 hat3 hne3)
          | (refine wpList_push rfl (.tmp 31) (.tmp 36) 28 rfl w.heap.size 3 1 8 sliceInt _ _ _ (hown3.alloc _) rfl w3.heap.size #[.int .i64 x] rfl (heap_alloc_new w3 _) rfl (by simp [Value.oneCell']) (by omega) (by omega) (by simp; omega) ?_
             intro v4 w4 hown4 ht4 hat4 hne4
             have hz4 := ht4.size
             simp only [World.size_alloc] at hz4))
        go_roundw
        case rel =>
          refine ⟨k + 1, by omega, by go_num, acc ++ [n, x], true, by show _ = _; rw [HS.out, HST.out], by simp; omega, rfl, ?_, ?_⟩
          · rw [show icells (natI (acc ++ [n, x])) = icells (natI acc) ++ [.int .i64 (n : Int)] ++ [.int .i64 (x : Int)] by simp [icells, natI], show (acc ++ [n, x]).length = acc.length + 1 + 1 by simp]; exact hown4
          · exact (hb3.alloc (by omega) _).trans (ht4.below (by simp; omega) (fun g hg h => by have := (hown3.lt g h).1; omega))
        case measure => simp [intOf]; omega
      · have hst : cstep n (acc, done) x = (acc ++ [x], done) := by unfold cstep; rw [if_neg hgo]
        have HST := Lib.hid hst
        clear hst
        cases done
        · have hnx : ¬ n < x := by simpa using hgo
          have dgt : decide (n < x) = false := by simpa using hnx
          clear hgo
          go_wp2_with (at_builtin
                       refine wpList_push rfl (.tmp 31) (.tmp 36) 28 rfl w.heap.size 3 1 8 sliceInt _ _ _ (hu.alloc _) rfl wr.heap.size #[.int .i64 x] rfl (heap_alloc_new wr _) rfl (by simp [Value.oneCell']) (by omega) (by omega) (by simp; omega) ?_
                       intro v4 w4 hown4 ht4 hat4 hne4
                       have hz4 := ht4.size
                       simp only [World.size_alloc] at hz4)
          go_roundw
          case rel =>
            refine ⟨k + 1, by omega, by go_num, acc ++ [x], false, by show _ = _; rw [HS.out, HST.out], by simp; omega, rfl, ?_, ?_⟩
            · rw [show icells (natI (acc ++ [x])) = icells (natI acc) ++ [.int .i64 (x : Int)] by simp [icells, natI], show (acc ++ [x]).length = acc.length + 1 by simp]; exact hown4
            · exact (hbr.alloc hsw _).trans (ht4.below (by simp; omega) (fun g hg h => by have := (hu.lt g h).1; omega))
          case measure => simp [intOf]; omega
        · clear hgo
          go_wp2_with (at_builtin
                       refine wpList_push rfl (.tmp 31) (.tmp 36) 28 rfl w.heap.size 3 1 8 sliceInt _ _ _ (hu.alloc _) rfl wr.heap.size #[.int .i64 x] rfl (heap_alloc_new wr _) rfl (by simp [Value.oneCell']) (by omega) (by omega) (by simp; omega) ?_
                       intro v4 w4 hown4 ht4 hat4 hne4
                       have hz4 := ht4.size
                       simp only [World.size_alloc] at hz4)
          go_roundw
          case rel =>
            refine ⟨k + 1, by omega, by go_num, acc ++ [x], true, by show _ = _; rw [HS.out, HST.out], by simp; omega, rfl, ?_, ?_⟩
            · rw [show icells (natI (acc ++ [x])) = icells (natI acc) ++ [.int .i64 (x : Int)] by simp [icells, natI], show (acc ++ [x]).length = acc.length + 1 by simp]; exact hown4
            · exact (hbr.alloc hsw _).trans (ht4.below (by simp; omega) (fun g hg h => by have := (hu.lt g h).1; omega))
          case measure => simp [intOf]; omega
    · have hkl : k = l.length := by omega
      subst hkl
      rw [List.take_of_length_le (Nat.le_refl _)] at HF
      cases done
      · go_wp2_with (at_builtin
                     refine wpList_push rfl (.tmp 40) (.tmp 42) 28 rfl w.heap.size 3 1 8 sliceInt _ _ _ (hu.alloc _) rfl wr.heap.size #[.int .i64 n] rfl (heap_alloc_new wr _) rfl (by simp [Value.oneCell']) (by omega) (by omega) (by simp; omega) ?_
                     intro v4 w4 hown4 ht4 hat4 hne4
                     have hz4 := ht4.size
                     simp only [World.size_alloc] at hz4)
        go_ret
        have hp : putF l n = acc ++ [n] := by rw [HP.out, HF.out]; rfl
        refine ⟨_, rfl, ?_, (hbr.alloc hsw _).trans (ht4.below (by simp; omega) (fun g hg h => by have := (hu.lt g h).1; omega))⟩
        rw [hp, show icells (natI (acc ++ [n])) = icells (natI acc) ++ [.int .i64 (n : Int)] by simp [icells, natI], show (acc ++ [n]).length = acc.length + 1 by simp]; exact hown4
      · go_wp2
        go_ret
        have hp : putF l n = acc := by rw [HP.out, HF.out]; rfl
        refine ⟨_, rfl, ?_, hbr⟩
        rw [hp]; exact hu
end Go.Proofs.Ytedohmcnjlhdnaa
