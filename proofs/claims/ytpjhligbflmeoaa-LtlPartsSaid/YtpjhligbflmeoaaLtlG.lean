/- The walks of layer 23's Untils; of slices.Equal and slices.Clone at nodes. -/
import Derived.Test.YtpjhligbflmeoaaLtlF
import Derived.Test.YtpjhligbflmeoaaEqI
import Derived.Laws.StructEq
namespace Go.Proofs.Ytpjhligbflmeoaa
open Go.RowKit

set_option maxHeartbeats 1000000 in
theorem Untils_any (A : Option Addr) (c : Nat) (f : List Nd) (w : World) (B : Nat) (hf : Sl w B 2 A f.length c (ncells f)) (hB : B ≤ w.heap.size) (hl : f.length ≤ 1000000000) :
    Calls Try.prog 30 #[.slice A f.length c] w (NewRow w 3 1 (untils f).length (icells (untils f)) (untils f = [])) := by
  go_enter Try.func30, Try.ntmps30
  go_wp2_with fail
  refine (Spans_any A c f w B hf hB hl).mono ?_
  rintro e w1 ⟨v, rfl, hown, hb, _⟩
  obtain ⟨A1, c1, rfl, hsl1⟩ := own_sl hown
  clear hown hsl1
  by_cases hw : wrong f = 0
  · have HW := Lib.hid hw
    rw [spans_len hw]
    clear hw
    have hsz := hb.size
    go_wp2
    go_loopw [3, 8] (fun u i wr => ∃ k : Nat, k ≤ f.length ∧ i = .int .i64 k ∧ wr.ownsRow w.heap.size 3 1 u (utl 0 (f.take k)).length (icells (utl 0 (f.take k))) ∧ Below w.heap.size w wr ∧ w1.heap.size ≤ wr.heap.size ∧ Hid (u = .slice none 0 0 ↔ utl 0 (f.take k) = [])) (fun _ i _ => f.length - (intOf i).toNat)
    case atStart => exact ⟨0, by omega, rfl, by simpa [utl, icells] using World.ownsRow_nil w1 w.heap.size 3 1, hb, by omega, by simp [Hid, utl]⟩
    case round =>
      obtain ⟨k, hk, rfl, hu, hbr, hszr, HN⟩ := hrel
      by_cases hlt : k < f.length
      · obtain ⟨b, o, rfl, _, hc0, hc1⟩ := rd_nd (hf.rd.below hbr hB) hlt
        have hsn := utl_snoc hlt
        have hul := utl_len (f.take k) 0
        rw [List.length_take, Nat.min_eq_left hk] at hul
        have HS := Lib.hid hsn
        clear hsn
        generalize hx : f[k] = x at *
        obtain ⟨op, n⟩ := x
        dsimp only at *
        have Hx := Lib.hid hx
        clear hx
        have hsw := hbr.size
        by_cases h3 : op = 9
        · subst h3
          go_wp2_with (at_builtin; refine wpList_push rfl (.tmp 17) (.tmp 19) 30 rfl w.heap.size 3 1 8 sliceInt _ _ _ (hu.alloc _) rfl wr.heap.size #[.int .i64 k] rfl (heap_alloc_new wr _) rfl (by simp [Value.oneCell']) (by omega) (by omega) (by simp; omega) ?_; intro v3 w3 hown3 ht3 hat3 hne3)
          have hz3 := ht3.size
          simp only [World.size_alloc] at hz3
          go_roundw
          case rel =>
            refine ⟨k + 1, by omega, by go_num, ?_, ?_, by omega, ?_⟩
            · rw [HS.out, if_pos rfl, icells_append, List.length_append]; exact hown3
            · exact (hbr.alloc hsw _).trans (ht3.below (by simp; omega) (fun g hg h => by have := (hu.lt g h).1; omega))
            · show _ ↔ _; rw [HS.out, if_pos rfl]; simp [hne3]
          case measure => simp [intOf]; omega
        · go_wp2
          go_roundw
          case rel =>
            refine ⟨k + 1, by omega, by go_num, ?_, hbr, by omega, ?_⟩
            · rw [HS.out, if_neg h3, List.append_nil]; exact hu
            · show _ ↔ _; rw [HS.out, if_neg h3, List.append_nil]; exact HN.out
          case measure => simp [intOf]; omega
      · have hkl : k = f.length := by omega
        subst hkl
        rw [List.take_of_length_le (Nat.le_refl _)] at hu HN
        go_wp2
        go_ret
        have hU : untils f = utl 0 f := by rw [untils, if_pos HW.out]
        exact ⟨_, rfl, by rw [hU]; exact hu, hbr, by rw [hU]; exact HN.out⟩
  · have hs : (spans f).length = 0 := by rw [(spans_nil_iff f).2 hw]; rfl
    rw [hs]
    have HW := Lib.hid hw
    clear hs hw
    go_wp2
    refine wp_loop_rounds 1 ?_
    rw [rounds_succ]
    go_wp2
    go_ret
    have hU : untils f = [] := by rw [untils, if_neg HW.out]
    exact ⟨_, rfl, by rw [hU]; exact World.ownsRow_nil _ _ _ _, hb, by simp [hU]⟩

set_option maxHeartbeats 1000000 in
theorem UntilsR_any (A : Option Addr) (c : Nat) (f : List Nd) (w : World) (B : Nat) (hf : Sl w B 2 A f.length c (ncells f)) (hB : B ≤ w.heap.size) (hl : f.length ≤ 1000000000) :
    Calls Try.prog 31 #[.slice A f.length c] w (NewRow w 3 1 (untils f).length (icells (untils f)) (untils f = [])) := by
  by_cases hw : wrong f = 0
  · have hw' : (wrong f == 0) = true := by simp [hw]
    have HW := Lib.hid hw
    clear hw
    go_enter Try.func31, Try.ntmps31
    go_wp2_with (first | (go_at_call 17; refine (Is_any A c f w B hf hl).mono ?_; rintro e w' ⟨rfl, rfl⟩))
    go_loopw [3, 4] (fun u i wr => ∃ k : Nat, k ≤ f.length ∧ i = .int .i64 k ∧ wr.ownsRow w.heap.size 3 1 u (utl 0 (f.take k)).length (icells (utl 0 (f.take k))) ∧ Below w.heap.size w wr ∧ Hid (u = .slice none 0 0 ↔ utl 0 (f.take k) = [])) (fun _ i _ => f.length - (intOf i).toNat)
    case atStart => exact ⟨0, by omega, rfl, by simpa [utl, icells] using World.ownsRow_nil w w.heap.size 3 1, Below.refl _ _, by simp [Hid, utl]⟩
    case round =>
      obtain ⟨k, hk, rfl, hu, hbr, HN⟩ := hrel
      by_cases hlt : k < f.length
      · obtain ⟨b, o, rfl, _, hc0, hc1⟩ := rd_nd (hf.rd.below hbr hB) hlt
        have hsn := utl_snoc hlt
        have hul := utl_len (f.take k) 0
        rw [List.length_take, Nat.min_eq_left hk] at hul
        have HS := Lib.hid hsn
        clear hsn
        generalize hx : f[k] = x at *
        obtain ⟨op, n⟩ := x
        dsimp only at *
        have Hx := Lib.hid hx
        clear hx
        have hsw := hbr.size
        by_cases h3 : op = 9
        · subst h3
          go_wp2_with (at_builtin; refine wpList_push rfl (.tmp 21) (.tmp 23) 30 rfl w.heap.size 3 1 8 sliceInt _ _ _ (hu.alloc _) rfl wr.heap.size #[.int .i64 k] rfl (heap_alloc_new wr _) rfl (by simp [Value.oneCell']) (by omega) (by omega) (by simp; omega) ?_; intro v3 w3 hown3 ht3 hat3 hne3)
          go_roundw
          case rel =>
            refine ⟨k + 1, by omega, by go_num, ?_, ?_, ?_⟩
            · rw [HS.out, if_pos rfl, icells_append, List.length_append]; exact hown3
            · exact (hbr.alloc hsw _).trans (ht3.below (by simp; omega) (fun g hg h => by have := (hu.lt g h).1; omega))
            · show _ ↔ _; rw [HS.out, if_pos rfl]; simp [hne3]
          case measure => simp [intOf]; omega
        · go_wp2
          go_roundw
          case rel =>
            refine ⟨k + 1, by omega, by go_num, ?_, hbr, ?_⟩
            · rw [HS.out, if_neg h3, List.append_nil]; exact hu
            · show _ ↔ _; rw [HS.out, if_neg h3, List.append_nil]; exact HN.out
          case measure => simp [intOf]; omega
      · have hkl : k = f.length := by omega
        subst hkl
        rw [List.take_of_length_le (Nat.le_refl _)] at hu HN
        go_wp2
        go_ret
        have hU : untils f = utl 0 f := by rw [untils, if_pos HW.out]
        exact ⟨_, rfl, by rw [hU]; exact hu, hbr, by rw [hU]; exact HN.out⟩
  · have hw' : (wrong f == 0) = false := by simpa using hw
    have HW := Lib.hid hw
    clear hw
    go_enter Try.func31, Try.ntmps31
    go_wp2_with (first | (go_at_call 17; refine (Is_any A c f w B hf hl).mono ?_; rintro e w' ⟨rfl, rfl⟩))
    go_ret
    have hU : untils f = [] := by rw [untils, if_neg HW.out]
    exact ⟨_, rfl, by rw [hU]; exact World.ownsRow_nil _ _ _ _, Below.refl _ _, by simp [hU]⟩

theorem isAgg_nd : ∀ w, (isAgg 44).run Try.prog w = .ok true w := by
  intro w
  go_simp
theorem neq_nd (x y : Nd) (w : World) : (binOp .neq 44 (.agg #[.int .i64 x.op, .int .i64 x.n]) (.agg #[.int .i64 y.op, .int .i64 y.n])).run Try.prog w = .ok (.bool (decide (x ≠ y))) w := by
  have hS : Try.prog.underlying 44 = some (.struct (Try.prog.fieldsOf 44)) := by kernel_rfl
  have hp : Try.prog.stoodInHeld 44 = false := by kernel_rfl
  rw [run_neq_struct, show (10000 : Nat) = 9999 + 1 from rfl, run_equalIn_agg w 9999 _ _ _ hS hp]
  simp only [Program.fieldsOf, Try.underlying44]
  obtain ⟨a, b⟩ := x
  obtain ⟨c, d⟩ := y
  go_simp
  by_cases h1 : a = c <;> by_cases h2 : b = d <;> simp [h1, h2, Result.andThen]

theorem rd_agg {w : World} {B : Nat} {A : Option Addr} {f : List Nd} (h : Rd w B A (ncells f)) {k : Nat} (hk : k < f.length) :
    ∃ b off, A = some ⟨b, off, none⟩ ∧ b < B ∧ w.cell? ⟨b, off + k * 2, none⟩ = some (.int .i64 f[k].op) ∧ w.cell? ⟨b, off + k * 2 + 1, none⟩ = some (.int .i64 f[k].n) := rd_nd h hk

set_option maxHeartbeats 1000000 in
theorem equalNd_any (A1 A2 : Option Addr) (n1 c1 n2 c2 : Nat) (xs ys : List Nd) (w : World) (B1 B2 : Nat) (hx : Sl w B1 2 A1 n1 c1 (ncells xs)) (hy : Sl w B2 2 A2 n2 c2 (ncells ys))
    (hn1 : n1 = xs.length) (hn2 : n2 = ys.length) (hl : n1 ≤ 1000000000) :
    Calls Try.prog 32 #[.slice A1 n1 c1, .slice A2 n2 c2] w (Said w (decide (xs = ys))) := by
  have hneq := neq_nd
  by_cases hne : n1 = n2
  · subst hne
    have HN1 := Lib.hid hn1
    have HN2 := Lib.hid hn2
    clear hn1 hn2
    have hd : ((n1 : Int) != (n1 : Int)) = false := by simp
    go_enter Try.func32, Try.ntmps32
    go_wp2
    go_loopw [13] (fun i wr => ∃ k m : Nat, k ≤ n1 ∧ i = .int .i64 k ∧ wr = w.drewN m ∧ Hid (xs.take k = ys.take k)) (fun i _ => n1 - (intOf i).toNat)
    case atStart => exact ⟨0, 0, by omega, rfl, rfl, rfl⟩
    case round =>
      obtain ⟨k, m, hk, rfl, rfl, ht⟩ := hrel
      by_cases hlt : k < n1
      · have hkx : k < xs.length := by rw [← HN1.out]; exact hlt
        have hky : k < ys.length := by rw [← HN2.out]; exact hlt
        obtain ⟨b, o, rfl, _, hc, hd⟩ := rd_nd hx.rd hkx
        obtain ⟨b', o', rfl, _, hc', hd'⟩ := rd_nd hy.rd hky
        have hs := fun h => take_eq_snoc ht.out hkx hky h
        generalize hX : xs[k] = x at *
        generalize hY : ys[k] = y at *
        have HX := Lib.hid hX
        have HY := Lib.hid hY
        have HS := Lib.hid hs
        clear hX hY hs
        have h0 : (0 : Int) ≤ (k : Int) := by omega
        have h1 : (k : Int) < (n1 : Int) := by omega
        go_wp2_with fail
        by_cases he : x = y
        · have hee : decide (x ≠ y) = false := by simp [he]
          have HE := Lib.hid he
          have hn3 : ∀ w, (binOp .neq 44 (.agg #[.int .i64 x.op, .int .i64 x.n]) (.agg #[.int .i64 y.op, .int .i64 y.n])).run Try.prog w = .ok (.bool false) w := fun w => by rw [neq_nd, hee]
          clear he hee hneq
          go_quiet (fail)
          go_wp2
          go_roundw
          case rel => exact ⟨k + 1, _, by omega, by go_num, by first | rfl | rw [World.drewN_drewN], HS.out HE.out⟩
          case measure => simp [intOf]; omega
        · have hee : decide (x ≠ y) = true := by simp [he]
          have HE := Lib.hid he
          have hn3 : ∀ w, (binOp .neq 44 (.agg #[.int .i64 x.op, .int .i64 x.n]) (.agg #[.int .i64 y.op, .int .i64 y.n])).run Try.prog w = .ok (.bool true) w := fun w => by rw [neq_nd, hee]
          clear he hee hneq
          go_quiet (fail)
          go_wp2
          go_ret
          refine ⟨ret_bool ?_, ?_⟩
          · symm; rw [decide_eq_false_iff_not]
            rintro rfl
            exact HE.out (HX.out.symm.trans HY.out)
          · exact ⟨_, by rw [World.drewN_drewN]⟩
      · have hkn : k = n1 := by omega
        subst hkn
        go_wp2
        go_ret
        refine ⟨ret_bool ?_, _, rfl⟩
        have := ht.out
        rw [List.take_of_length_le (by rw [← HN1.out]; exact Nat.le_refl _), List.take_of_length_le (by rw [← HN2.out]; exact Nat.le_refl _)] at this
        simp [this]
  · have hd : ((n1 : Int) != (n2 : Int)) = true := by simp; omega
    have HD := Lib.hid hne
    have HN1 := Lib.hid hn1
    have HN2 := Lib.hid hn2
    clear hne hn1 hn2
    go_enter Try.func32, Try.ntmps32
    go_wp2
    go_ret
    refine ⟨ret_bool ?_, 0, rfl⟩
    symm; rw [decide_eq_false_iff_not]
    intro h
    exact HD.out (by rw [HN1.out, HN2.out, h])
end Go.Proofs.Ytpjhligbflmeoaa
