/- The walks of layer 25: form, Of, Dual, Is. -/
import Derived.Test.YtamhjgkigjpbhaaDoorNnf2
import Derived.Test.YtamhjgkigjpbhaaDoorLtl4
import Derived.Test.YtamhjgkigjpbhaaDoorMd
namespace Go.Proofs.YtamhjgkigjpbhaaDoor
open Go.RowKit

set_option maxHeartbeats 2000000 in
theorem Is_any (A : Option Addr) (c : Nat) (f : List Nd) (w : World) (B : Nat) (hf : Sl w B 2 A f.length c (ncells f)) (hB : B ≤ w.heap.size) (hl : f.length ≤ 1000000) :
    Calls Tryd.prog 21 #[.slice A f.length c] w (Tru w (isN f)) := by
  go_enter Tryd.func21, Tryd.ntmps21
  go_wp2_with fail
  refine (Spans_any A c f _ B hf hB (by omega)).mono ?_
  rintro e w1 ⟨v1, rfl, hown1, hb1, _⟩
  have hz1 := hb1.size
  obtain ⟨A1, c1, rfl, hs1⟩ := own_sl hown1
  clear hown1 hs1
  by_cases hw : wrong f = 0
  · have hne : f ≠ [] := by rintro rfl; simp [wrong_nil] at hw
    have hpos := List.length_pos_iff.2 hne
    have hlen' : (((spans f).length : Int) == 0) = false := by rw [spans_len hw]; simp; omega
    have HW := Lib.hid hw
    clear hw hne
    go_wp2
    go_loopw [11] (fun i wr => ∃ k : Nat, k ≤ f.length ∧ i = .int .i64 k ∧ Below w.heap.size w wr ∧ Hid (isNl 0 (f.take k) = true)) (fun i _ => f.length - (intOf i).toNat)
    case atStart => exact ⟨0, by omega, rfl, hb1, rfl⟩
    case round =>
      obtain ⟨k, hk, rfl, hbr, HN⟩ := hrel
      have hzr := hbr.size
      by_cases hlt : k < f.length
      · have hfr := hf.rd.below hbr hB
        obtain ⟨b, o, rfl, hbB, hc0, hc1⟩ := rd_nd hfr hlt
        have hno := fun h => isNl_no hlt h
        have hok := fun h => isNl_ok hlt HN.out h
        have hnf := fun h => not_first HW.out hlt h
        have hla := fun h1 => lastOp_take hlt h1
        have HNO := Lib.hid hno
        have HOK := Lib.hid hok
        clear hno hok
        generalize hx : f[k] = x at *
        obtain ⟨op, n⟩ := x
        dsimp only at *
        have Hx := Lib.hid hx
        clear hx
        by_cases h4 : op = 4
        · subst h4
          have hk1 : 1 ≤ k := hnf (by decide)
          have hlo := hla hk1
          obtain ⟨b', o', e', _, hd0, hd1⟩ := rd_nd hfr (k := k - 1) (by omega)
          cases e'
          clear hnf hla
          generalize hy : f[k - 1] = y at *
          obtain ⟨op', n'⟩ := y
          dsimp only at *
          have HLO := Lib.hid hlo
          have HY := Lib.hid hy
          clear hlo hy
          have hblt := World.block_lt_of_cell? _ _ hd0
          have hd0' := (((Below.refl wr.heap.size wr).alloc (Nat.le_refl _) (.cells #[.int .i64 4, .int .i64 n] 47)).cell (p := ⟨b, o + (k - 1) * 2, none⟩) hblt).trans hd0
          have hd1' := (((Below.refl wr.heap.size wr).alloc (Nat.le_refl _) (.cells #[.int .i64 4, .int .i64 n] 47)).cell (p := ⟨b, o + (k - 1) * 2 + 1, none⟩) hblt).trans hd1
          have hk01 : (0 : Int) ≤ (k : Int) - 1 := by omega
          have hk02 : (k : Int) - 1 < (f.length : Int) := by omega
          by_cases h3 : op' = 3
          · have hn3 : ∀ w, (binOp .neq 47 (.agg #[.int .i64 op', .int .i64 n']) (.agg #[.int .i64 3, .int .i64 n'])).run Tryd.prog w = .ok (.bool false) w := fun w => by
              have := neq_nd ⟨op', n'⟩ ⟨3, n'⟩ w; simpa [h3] using this
            have H3 := Lib.hid h3
            clear h3
            go_wp2
            have ew : IntKind.i64.wrap ((k : Int) - 1) = (k : Int) - 1 := IntWalk.i64_in _ (by omega)
            have et : ((k : Int) - 1).toNat = k - 1 := by omega
            go_quiet (fail)
            clear ew et
            go_wp2
            go_roundw
            case rel => exact ⟨k + 1, by omega, by go_num, below_drewN (hbr.alloc hzr _) _, HOK.out (by rw [HLO.out, H3.out]; rfl)⟩
            case measure => simp [intOf]; omega
          · have hn3 : ∀ w, (binOp .neq 47 (.agg #[.int .i64 op', .int .i64 n']) (.agg #[.int .i64 3, .int .i64 n'])).run Tryd.prog w = .ok (.bool true) w := fun w => by
              have := neq_nd ⟨op', n'⟩ ⟨3, n'⟩ w; simpa [h3] using this
            have H3 := Lib.hid h3
            clear h3
            go_wp2
            have ew : IntKind.i64.wrap ((k : Int) - 1) = (k : Int) - 1 := IntWalk.i64_in _ (by omega)
            have et : ((k : Int) - 1).toNat = k - 1 := by omega
            go_quiet (fail)
            clear ew et
            go_wp2
            go_ret
            exact ⟨ret_bool (by rw [HNO.out (by rw [HLO.out]; simp [okN, H3.out])]), below_drewN (hbr.alloc hzr _) _⟩
        · clear hnf hla
          by_cases h7 : op = 7 ∨ op = 11 ∨ op = 12
          · rcases h7 with rfl | rfl | rfl
            all_goals
              go_wp2
              go_ret
              exact ⟨ret_bool (by rw [HNO.out (by simp [okN])]), hbr.alloc hzr _⟩
          · have e7 : op ≠ 7 := fun h => h7 (.inl h)
            have e11 : op ≠ 11 := fun h => h7 (.inr (.inl h))
            have e12 : op ≠ 12 := fun h => h7 (.inr (.inr h))
            clear h7
            go_wp2
            go_roundw
            case rel => exact ⟨k + 1, by omega, by go_num, hbr.alloc hzr _, HOK.out (by simp [okN, h4, e7, e11, e12])⟩
            case measure => simp [intOf]; omega
      · have hkl : k = f.length := by omega
        subst hkl
        go_wp2
        go_ret
        exact ⟨ret_bool (by rw [isN_end HW.out HN.out]), hbr⟩
  · have hs : (spans f).length = 0 := by rw [(spans_nil_iff f).2 hw]; rfl
    have hlen' : (((spans f).length : Int) == 0) = true := by rw [hs]; rfl
    have HW := Lib.hid hw
    clear hw hs
    go_wp2
    go_ret
    exact ⟨ret_bool (by rw [isN_wrong HW.out]), hb1⟩
end Go.Proofs.YtamhjgkigjpbhaaDoor
