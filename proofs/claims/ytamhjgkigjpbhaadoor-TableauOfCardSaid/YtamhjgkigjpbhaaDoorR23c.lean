/- The walks of the reference of layer 23: Props, Untils, Next. -/
import Derived.Test.YtamhjgkigjpbhaaDoorR23a
import Derived.Test.YtamhjgkigjpbhaaDoorMd
namespace Go.Proofs.YtamhjgkigjpbhaaDoor
open Go.RowKit

set_option maxHeartbeats 1000000 in
theorem UntilsR_any (A : Option Addr) (c : Nat) (f : List Nd) (w : World) (B : Nat) (hf : Sl w B 2 A f.length c (ncells f)) (hB : B ≤ w.heap.size) (hl : f.length ≤ 1000000000) :
    Calls Tryd.prog 16 #[.slice A f.length c] w (NewRow w 3 1 (untils f).length (icells (untils f)) (untils f = [])) := by
  by_cases hw : wrong f = 0
  · have hw' : (wrong f == 0) = true := by simp [hw]
    have HW := Lib.hid hw
    clear hw
    go_enter Tryd.func16, Tryd.ntmps16
    go_wp2_with (first | (go_at_call 32; refine (IsR23_any A c f w B hf hl).mono ?_; rintro e w' ⟨rfl, rfl⟩))
    go_loopw [3, 4] (fun u i wr => ∃ k : Nat, k ≤ f.length ∧ i = .int .i64 k ∧ wr.ownsRow w.heap.size 3 1 u (utl 0 (f.take k)).length (icells (utl 0 (f.take k))) ∧ Below w.heap.size w wr ∧ Hid (u = .slice none 0 0 ↔ utl 0 (f.take k) = [])) (fun _ i _ => f.length - (intOf i).toNat)
    case atStart => exact ⟨0, by omega, rfl, by simpa [utl, icells] using World.ownsRow_nil w w.heap.size 3 1, Below.refl _ _, by simp [Hid, utl]⟩
    case round =>
      obtain ⟨k, hk, rfl, hu, hbr, HN⟩ := hrel
      by_cases hlt : k < f.length
      · obtain ⟨b, o, rfl, _, hc0, hc1⟩ := rd_nd (hf.rd.below hbr hB) hlt
        have hsn := utl_snoc hlt
        have hul := utl_len (f.take k) 0
        rw [List.length_take, Nat.min_eq_left hk] at hul
        have HS := Lib.hid hsn
        clear hsn
        generalize hx : f[k] = x at *
        obtain ⟨op, n⟩ := x
        dsimp only at *
        have Hx := Lib.hid hx
        clear hx
        have hsw := hbr.size
        by_cases h3 : op = 9
        · subst h3
          go_wp2_with (at_builtin; refine wpList_push rfl (.tmp 21) (.tmp 23) 25 rfl w.heap.size 3 1 8 sliceInt _ _ _ (hu.alloc _) rfl wr.heap.size #[.int .i64 k] rfl (heap_alloc_new wr _) rfl (by simp [Value.oneCell']) (by omega) (by omega) (by simp; omega) ?_; intro v3 w3 hown3 ht3 hat3 hne3)
          go_roundw
          case rel =>
            refine ⟨k + 1, by omega, by go_num, ?_, ?_, ?_⟩
            · rw [HS.out, if_pos rfl, icells_append, List.length_append]; exact hown3
            · exact (hbr.alloc hsw _).trans (ht3.below (by simp; omega) (fun g hg h => by have := (hu.lt g h).1; omega))
            · show _ ↔ _; rw [HS.out, if_pos rfl]; simp [hne3]
          case measure => simp [intOf]; omega
        · go_wp2
          go_roundw
          case rel =>
            refine ⟨k + 1, by omega, by go_num, ?_, hbr, ?_⟩
            · rw [HS.out, if_neg h3, List.append_nil]; exact hu
            · show _ ↔ _; rw [HS.out, if_neg h3, List.append_nil]; exact HN.out
          case measure => simp [intOf]; omega
      · have hkl : k = f.length := by omega
        subst hkl
        rw [List.take_of_length_le (Nat.le_refl _)] at hu HN
        go_wp2
        go_ret
        have hU : untils f = utl 0 f := by rw [untils, if_pos HW.out]
        exact ⟨_, rfl, by rw [hU]; exact hu, hbr, by rw [hU]; exact HN.out⟩
  · have hw' : (wrong f == 0) = false := by simpa using hw
    have HW := Lib.hid hw
    clear hw
    go_enter Tryd.func16, Tryd.ntmps16
    go_wp2_with (first | (go_at_call 32; refine (IsR23_any A c f w B hf hl).mono ?_; rintro e w' ⟨rfl, rfl⟩))
    go_ret
    have hU : untils f = [] := by rw [untils, if_neg HW.out]
    exact ⟨_, rfl, by rw [hU]; exact World.ownsRow_nil _ _ _ _, Below.refl _ _, by simp [hU]⟩

end Go.Proofs.YtamhjgkigjpbhaaDoor
