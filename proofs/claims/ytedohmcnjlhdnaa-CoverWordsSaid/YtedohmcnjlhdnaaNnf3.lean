/- The walks of layer 25: form, Of, Dual, Is. -/
import Derived.Test.YtedohmcnjlhdnaaNnf2
import Derived.Test.YtedohmcnjlhdnaaLtl4
import Derived.Test.YtedohmcnjlhdnaaMd
namespace Go.Proofs.Ytedohmcnjlhdnaa
open Go.RowKit

set_option maxHeartbeats 1000000 in
theorem form_any (A : Option Addr) (c : Nat) (f : List Nd) (no : Bool) (w : World) (B : Nat) (hf : Sl w B 2 A f.length c (ncells f)) (hB : B ≤ w.heap.size) (hl : f.length ≤ 1000000) :
    Calls Try.prog 39 #[.slice A f.length c, .bool no] w (NewRow w 38 2 (formL f (!no)).length (ncells (formL f (!no))) (formL f (!no) = [])) := by
  go_enter Try.func39, Try.ntmps39
  go_wp2_with fail
  refine (Spans_any A c f _ B hf hB (by omega)).mono ?_
  rintro e w1 ⟨v1, rfl, hown1, hb1, _⟩
  have hz1 := hb1.size
  obtain ⟨A1, c1, rfl, hs1⟩ := own_sl hown1
  by_cases hw : wrong f = 0
  · obtain ⟨hok, hfl⟩ := treeOf_ok hw
    have hat := at_whole hok
    rw [hfl] at hat
    have hsz : (treeOf f).size = f.length := by rw [← Tr.flat_len, hfl]
    have hpos := (treeOf f).size_pos
    obtain ⟨k, hk⟩ : ∃ k, k + 1 = 0 + (treeOf f).size := ⟨(treeOf f).size - 1, by omega⟩
    have hkk : (f.length : Int) - 1 = k := by omega
    have hne0 : f ≠ [] := by rintro rfl; simp [wrong_nil] at hw
    have hlen' : (((spans f).length : Int) == 0) = false := by rw [spans_len hw]; simpa using hne0
    have hin : WIn f (spans f) A A1 c c1 w1.heap.size (w1.alloc (.cells #[.slice A f.length c, .slice A1 (spans f).length c1, .slice none 0 0] 87)) (.slice none 0 0) 0 [] :=
      ⟨heap_alloc_new w1 _, World.ownsRow_nil _ _ _ _, ((hf.below hb1 hB).up (by omega)).below ((Below.refl w1.heap.size w1).alloc (Nat.le_refl _) _) (Nat.le_refl _), hs1.below ((Below.refl w1.heap.size w1).alloc (Nat.le_refl _) _) (Nat.le_refl _)⟩
    have hp := part_any (f := f) (s := spans f) (A := A) (A' := A1) (c := c) (c' := c1) (Bw := w1.heap.size) hl (treeOf f) 0 hok hat no k _ _ _ _ hk hin (by omega)
    have hps := nn_size (treeOf f) (!no)
    have HP := Lib.hid hp
    have HK := Lib.hid hkk
    have HW := Lib.hid hw
    clear hp hkk hk hw hok hfl hat hown1
    go_wp2_with fail
    rw [HK.out]
    refine Calls.mono HP.out ?_
    rintro e w2 ⟨vo, rfl, hin2, ht2, hat2, hne2⟩
    have hbel2 : Below w.heap.size w w2 := hb1.trans (((Below.refl _ _).alloc hz1 _).trans (ht2.below (by simp; omega) (fun g hg h => by
      rcases h with h | h
      · omega
      · simp [Value.ownBlock] at h)))
    obtain ⟨hb2, hown2, _, _⟩ := hin2
    obtain ⟨r0, r1, r2, r3⟩ := cells3 hb2
    go_wp2
    go_ret
    have hfl : formL f (!no) = (nn (treeOf f) (!no)).flat := by rw [formL, if_pos HW.out]
    have hne : ¬ formL f (!no) = [] := by rw [formL_nil]; simp [HW.out]
    have hpos2 := (nn (treeOf f) (!no)).size_pos
    refine ⟨vo, rfl, ?_, hbel2, by simp only [hne, iff_false]; exact hne2 (by omega)⟩
    rw [hfl, Tr.flat_len]
    rw [Nat.zero_add, List.nil_append] at hown2
    exact own_base hown2 (by omega)
  · have hs : (spans f).length = 0 := by rw [(spans_nil_iff f).2 hw]; rfl
    have hlen' : (((spans f).length : Int) == 0) = true := by rw [hs]; rfl
    have HW := Lib.hid hw
    clear hw hs hown1 hs1
    go_wp2
    go_ret
    have h0 : formL f (!no) = [] := (formL_nil _ _).2 HW.out
    exact ⟨_, rfl, by rw [h0]; exact World.ownsRow_nil _ _ _ _, hb1.alloc hz1 _, by simp [h0]⟩

theorem Of_any (A : Option Addr) (c : Nat) (f : List Nd) (w : World) (B : Nat) (hf : Sl w B 2 A f.length c (ncells f)) (hB : B ≤ w.heap.size) (hl : f.length ≤ 1000000) :
    Calls Try.prog 20 #[.slice A f.length c] w (NewRow w 38 2 (formL f true).length (ncells (formL f true)) (formL f true = [])) := by
  go_enter Try.func20, Try.ntmps20
  go_wp2_with fail
  refine (form_any A c f false w B hf hB hl).mono ?_
  rintro e w1 ⟨v1, rfl, hown1, hb1, hn1⟩
  go_wp2
  go_ret
  exact ⟨v1, rfl, hown1, hb1, hn1⟩
theorem Dual_any (A : Option Addr) (c : Nat) (f : List Nd) (w : World) (B : Nat) (hf : Sl w B 2 A f.length c (ncells f)) (hB : B ≤ w.heap.size) (hl : f.length ≤ 1000000) :
    Calls Try.prog 23 #[.slice A f.length c] w (NewRow w 38 2 (formL f false).length (ncells (formL f false)) (formL f false = [])) := by
  go_enter Try.func23, Try.ntmps23
  go_wp2_with fail
  refine (form_any A c f true w B hf hB hl).mono ?_
  rintro e w1 ⟨v1, rfl, hown1, hb1, hn1⟩
  go_wp2
  go_ret
  exact ⟨v1, rfl, hown1, hb1, hn1⟩

set_option maxHeartbeats 2000000 in
theorem Is_any (A : Option Addr) (c : Nat) (f : List Nd) (w : World) (B : Nat) (hf : Sl w B 2 A f.length c (ncells f)) (hB : B ≤ w.heap.size) (hl : f.length ≤ 1000000) :
    Calls Try.prog 15 #[.slice A f.length c] w (Tru w (isN f)) := by
  go_enter Try.func15, Try.ntmps15
  go_wp2_with fail
  refine (Spans_any A c f _ B hf hB (by omega)).mono ?_
  rintro e w1 ⟨v1, rfl, hown1, hb1, _⟩
  have hz1 := hb1.size
  obtain ⟨A1, c1, rfl, hs1⟩ := own_sl hown1
  clear hown1 hs1
  by_cases hw : wrong f = 0
  · have hne : f ≠ [] := by rintro rfl; simp [wrong_nil] at hw
    have hpos := List.length_pos_iff.2 hne
    have hlen' : (((spans f).length : Int) == 0) = false := by rw [spans_len hw]; simp; omega
    have HW := Lib.hid hw
    clear hw hne
    go_wp2
    go_loopw [11] (fun i wr => ∃ k : Nat, k ≤ f.length ∧ i = .int .i64 k ∧ Below w.heap.size w wr ∧ Hid (isNl 0 (f.take k) = true)) (fun i _ => f.length - (intOf i).toNat)
    case atStart => exact ⟨0, by omega, rfl, hb1, rfl⟩
    case round =>
      obtain ⟨k, hk, rfl, hbr, HN⟩ := hrel
      have hzr := hbr.size
      by_cases hlt : k < f.length
      · have hfr := hf.rd.below hbr hB
        obtain ⟨b, o, rfl, hbB, hc0, hc1⟩ := rd_nd hfr hlt
        have hno := fun h => isNl_no hlt h
        have hok := fun h => isNl_ok hlt HN.out h
        have hnf := fun h => not_first HW.out hlt h
        have hla := fun h1 => lastOp_take hlt h1
        have HNO := Lib.hid hno
        have HOK := Lib.hid hok
        clear hno hok
        generalize hx : f[k] = x at *
        obtain ⟨op, n⟩ := x
        dsimp only at *
        have Hx := Lib.hid hx
        clear hx
        by_cases h4 : op = 4
        · subst h4
          have hk1 : 1 ≤ k := hnf (by decide)
          have hlo := hla hk1
          obtain ⟨b', o', e', _, hd0, hd1⟩ := rd_nd hfr (k := k - 1) (by omega)
          cases e'
          clear hnf hla
          generalize hy : f[k - 1] = y at *
          obtain ⟨op', n'⟩ := y
          dsimp only at *
          have HLO := Lib.hid hlo
          have HY := Lib.hid hy
          clear hlo hy
          have hblt := World.block_lt_of_cell? _ _ hd0
          have hd0' := (((Below.refl wr.heap.size wr).alloc (Nat.le_refl _) (.cells #[.int .i64 4, .int .i64 n] 38)).cell (p := ⟨b, o + (k - 1) * 2, none⟩) hblt).trans hd0
          have hd1' := (((Below.refl wr.heap.size wr).alloc (Nat.le_refl _) (.cells #[.int .i64 4, .int .i64 n] 38)).cell (p := ⟨b, o + (k - 1) * 2 + 1, none⟩) hblt).trans hd1
          have hk01 : (0 : Int) ≤ (k : Int) - 1 := by omega
          have hk02 : (k : Int) - 1 < (f.length : Int) := by omega
          by_cases h3 : op' = 3
          · have hn3 : ∀ w, (binOp .neq 38 (.agg #[.int .i64 op', .int .i64 n']) (.agg #[.int .i64 3, .int .i64 n'])).run Try.prog w = .ok (.bool false) w := fun w => by
              have := neq_nd ⟨op', n'⟩ ⟨3, n'⟩ w; simpa [h3] using this
            have H3 := Lib.hid h3
            clear h3
            go_wp2
            have ew : IntKind.i64.wrap ((k : Int) - 1) = (k : Int) - 1 := IntWalk.i64_in _ (by omega)
            have et : ((k : Int) - 1).toNat = k - 1 := by omega
            go_quiet (fail)
            clear ew et
            go_wp2
            go_roundw
            case rel => exact ⟨k + 1, by omega, by go_num, below_drewN (hbr.alloc hzr _) _, HOK.out (by rw [HLO.out, H3.out]; rfl)⟩
            case measure => simp [intOf]; omega
          · have hn3 : ∀ w, (binOp .neq 38 (.agg #[.int .i64 op', .int .i64 n']) (.agg #[.int .i64 3, .int .i64 n'])).run Try.prog w = .ok (.bool true) w := fun w => by
              have := neq_nd ⟨op', n'⟩ ⟨3, n'⟩ w; simpa [h3] using this
            have H3 := Lib.hid h3
            clear h3
            go_wp2
            have ew : IntKind.i64.wrap ((k : Int) - 1) = (k : Int) - 1 := IntWalk.i64_in _ (by omega)
            have et : ((k : Int) - 1).toNat = k - 1 := by omega
            go_quiet (fail)
            clear ew et
            go_wp2
            go_ret
            exact ⟨ret_bool (by rw [HNO.out (by rw [HLO.out]; simp [okN, H3.out])]), below_drewN (hbr.alloc hzr _) _⟩
        · clear hnf hla
          by_cases h7 : op = 7 ∨ op = 11 ∨ op = 12
          · rcases h7 with rfl | rfl | rfl
            all_goals
              go_wp2
              go_ret
              exact ⟨ret_bool (by rw [HNO.out (by simp [okN])]), hbr.alloc hzr _⟩
          · have e7 : op ≠ 7 := fun h => h7 (.inl h)
            have e11 : op ≠ 11 := fun h => h7 (.inr (.inl h))
            have e12 : op ≠ 12 := fun h => h7 (.inr (.inr h))
            clear h7
            go_wp2
            go_roundw
            case rel => exact ⟨k + 1, by omega, by go_num, hbr.alloc hzr _, HOK.out (by simp [okN, h4, e7, e11, e12])⟩
            case measure => simp [intOf]; omega
      · have hkl : k = f.length := by omega
        subst hkl
        go_wp2
        go_ret
        exact ⟨ret_bool (by rw [isN_end HW.out HN.out]), hbr⟩
  · have hs : (spans f).length = 0 := by rw [(spans_nil_iff f).2 hw]; rfl
    have hlen' : (((spans f).length : Int) == 0) = true := by rw [hs]; rfl
    have HW := Lib.hid hw
    clear hw hs
    go_wp2
    go_ret
    exact ⟨ret_bool (by rw [isN_wrong HW.out]), hb1⟩
end Go.Proofs.Ytedohmcnjlhdnaa
