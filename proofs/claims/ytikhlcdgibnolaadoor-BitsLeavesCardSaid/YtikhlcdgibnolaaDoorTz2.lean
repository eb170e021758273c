/- The contract of the iterator that (*Set).All hands back. -/
import Derived.Test.YtikhlcdgibnolaaDoorTz1
namespace Go.Proofs.YtikhlcdgibnolaaDoor
open Go.RowKit Go.Shelf

attribute [local go_sem] Oper.semAt_some

set_option maxHeartbeats 1000000 in
/-- (*Set).All: the pointer is boxed; the iterator captures the box. -/
theorem all_any (p : Option Addr) (w : World) :
    Calls Tryd.prog 33 #[.pointer p] w fun e w' => e = .returned (.func (.func 39) #[] #[.pointer (some ⟨w.heap.size, 0, none⟩)]) ∧ w' = w.alloc (.cells #[.pointer p] 32) := by
  go_enter Tryd.func33, Tryd.ntmps33
  go_wp2
  go_ret
  exact ⟨rfl, rfl⟩

set_option maxRecDepth 100000 in
set_option maxHeartbeats 2000000 in
/-- All of no set. -/
theorem allNil_in (n : Nat) (l Bs : Nat) (W : World) (hBs : W.cell? ⟨Bs, 0, none⟩ = some (.pointer none)) :
    CallsIn Fence.wide n Tryd.prog 39 #[.func (.yield l) #[] #[], .pointer (some ⟨Bs, 0, none⟩)] W fun e W' => (∃ v, e = .returned v) ∧ W' = W.alloc (.cells #[.func (.yield l) #[] #[]] 38) := by
  have hB1 := cell_al (.cells #[.func (.yield l) #[] #[]] 38) hBs
  refine callsIn_of_wp Tryd.func39 rfl trivial ?_ rfl
  simp only [Tryd.ntmps39, List.size_toArray, List.length_cons, List.length_nil, Nat.reduceAdd, Nat.reduceSub, Array.replicate_succ, Array.replicate_zero, List.push_toArray, List.append_toArray, List.nil_append, List.cons_append]
  gi_wp2
  refine bodyPost_ret (results_none rfl _ _ _) rfl ?_
  exact ⟨⟨_, rfl⟩, rfl⟩

theorem numsK_pre {X : List Nat} {j k : Nat} (h : j ≤ k) : numsK X j <+: numsK X k := by
  obtain ⟨d, rfl⟩ : ∃ d, k = j + d := ⟨k - j, by omega⟩
  clear h
  induction d with
  | zero => exact List.prefix_refl _
  | succ d ih => rw [show j + (d + 1) = (j + d) + 1 by omega, numsK_succ]; exact ih.trans (List.prefix_append _ _)

set_option maxRecDepth 100000 in
set_option maxHeartbeats 4000000 in
theorem all1_in (m : Nat) (hm : 3 ≤ m) (l Bs S q n : Nat) (X : List Nat) (M : Nat → Prop) (J Jx : List Nat × (Nat → Prop) → World → Prop)
    (W : World) (hM : ∀ k, M k → k < W.heap.size) (hJ : OwnFrom W.heap.size J) (hJx : OwnFrom W.heap.size Jx)
    (hY : ∀ pre (i : Nat) N W, J (pre, N) W → pre ++ [i] <+: numsW X → YieldAt Fence.wide (m - 1) Tryd.prog l #[.int .i64 (i : Int)] W fun e W' => ∃ N', Rnd N W N' W' ∧
      ((e = .returned (.bool true) ∧ J (pre ++ [i], N') W') ∨ (e = .returned (.bool false) ∧ Jx (pre ++ [i], N') W')))
    (hg : 0 < W.heap.size) (hgM : ¬ M 0) (hBs : W.cell? ⟨Bs, 0, none⟩ = some (.pointer (some ⟨S, 0, none⟩))) (hX : BSet S q n X W) (hqM : ¬ M q) (hT : TabAt 0 Lib.deBruijn64tab W) (h0 : J ([], M) W) :
    CallsIn Fence.wide m Tryd.prog 39 #[.func (.yield l) #[] #[], .pointer (some ⟨Bs, 0, none⟩)] W fun e W' => (∃ v, e = .returned v) ∧
      ((∃ N, J (numsW X, N) W') ∨ (∃ pre N, pre <+: numsW X ∧ Jx (pre, N) W')) := by
  obtain ⟨⟨c0, c1⟩, _, hSl⟩ := blk2 hX.1
  have h1m : 1 ≤ m := by omega
  have hB1 := cell_al (.cells #[.func (.yield l) #[] #[]] 38) hBs
  have hc1 := cell_al (.cells #[.func (.yield l) #[] #[]] 38) c1
  have hlX : X.length ≤ 1024 := by rw [hX.2.2.1]; have := hX.2.2.2.2; omega
  have hqW := hX.lt.2
  have hYb := Boxed.new W 38 (.func (.yield l) #[] #[])
  have hT0 : Rnd M W M (W.alloc (.cells #[.func (.yield l) #[] #[]] 38)) := Rnd.of_tch ((Tch.refl _ _).alloc _) hM
  have hJ0 : J (numsK X 0, M) (W.alloc (.cells #[.func (.yield l) #[] #[]] 38)) := hJ.alloc _ (by simpa [numsK] using h0)
  refine callsIn_of_wp_marks Tryd.func39 rfl trivial ?_ rfl
  simp only [Tryd.ntmps39, List.size_toArray, List.length_cons, List.length_nil, Nat.reduceAdd, Nat.reduceSub, Array.replicate_succ, Array.replicate_zero, List.push_toArray, List.append_toArray, List.nil_append, List.cons_append]
  gi_wp2
  clear hB1 hc1 c0 c1
  refine wpIn_loop (fun a' wr => ∃ (k : Nat) (Ds : List Nat) (N : Nat → Prop) (u3 u4 u5 u14 u15 u16 u17 u18 u19 u20 u21 u22 u23 u24 u25 u26 u27 u28 : Value), k ≤ X.length ∧ J (numsK X k, N) wr ∧ Rnd M W N wr ∧ (Boxed wr W.heap.size 38 (.func (.yield l) #[] #[]) ∧ ¬ N W.heap.size) ∧ (Marks W.heap.size Ds wr ∧ ∀ D ∈ Ds, ¬ N D) ∧
      a' = { tmps := #[.func (.yield l) #[] #[], .pointer (some ⟨Bs, 0, none⟩), .pointer (some ⟨W.heap.size, 0, none⟩), u3, u4, u5, .pointer (some ⟨S, 0, none⟩), .bool false, .pointer (some ⟨S, 0, none⟩), .pointer (some ⟨S, 0, none⟩), .pointer (some ⟨S, 1, none⟩), .slice (some ⟨q, 0, none⟩) X.length X.length, .int .i64 (X.length : Int), .int .i64 (k : Int), u14, u15, u16, u17, u18, u19, u20, u21, u22, u23, u24, u25, u26, u27, u28], defers := marksOf Ds })
    (fun a' _ => X.length - (intOf (a'.tmps.getD 13 undef)).toNat) ?start ?round
  case start => exact ⟨0, [], M, _, _, _, _, _, _, _, _, _, _, _, _, _, _, _, _, _, _, Nat.zero_le _, hJ0, hT0, ⟨hYb, fun e => Nat.lt_irrefl _ (hM _ e)⟩, ⟨Marks.nil _ _, fun _ h => by cases h⟩, rfl⟩
  case round =>
    rintro a' wr ⟨k, Ds, N, u3, u4, u5, u14, u15, u16, u17, u18, u19, u20, u21, u22, u23, u24, u25, u26, u27, u28, hk, hJs, hTs, ⟨hYs, hYn⟩, ⟨hMs, hMn⟩, rfl⟩
    by_cases hlt : k < X.length
    · obtain ⟨cw, _, hw64⟩ := hX.at_ hlt
      have cw' := (hTs.tch.cell (p := ⟨q, k, none⟩) hqW hqM).trans cw
      have HX := Lib.hid (numsK_succ X k)
      have hPk := numsK_pre (X := X) (show k + 1 ≤ X.length by omega)
      rw [numsW_all] at hPk
      have hP : ∀ pre, pre <+: bitsL (X.getD k 0) → numsK X k ++ pre.map (fun i => k * 64 + i) <+: numsW X := fun pre hpre =>
        List.IsPrefix.trans (by rw [numsK_succ]; exact (List.prefix_append_right_inj _).2 (hpre.map _)) hPk
      clear cw
      generalize X.getD k 0 = x at *
      gi_wp2_with (refine ⟨trivial, ?_⟩; gi_at_call 8; refine (callsIn_wide.2 (each_any _ _)).mono ?_; rintro e w' ⟨rfl, rfl⟩)
      obtain ⟨W0, hW0⟩ : ∃ W0, (wr.alloc (.cells #[.int .i64 (k : Int)] 3)).alloc (.cells #[.int .u64 (x : Int)] 22) = W0 := ⟨_, rfl⟩
      have t0 : Tch (fun _ => False) wr W0 := by rw [← hW0]; exact ((Tch.refl _ _).alloc _).alloc _
      have hsz : W0.heap.size = wr.heap.size + 2 := by rw [← hW0]; simp
      have hbk : Boxed W0 wr.heap.size 3 (.int .i64 (k : Int)) := by rw [← hW0]; exact (Boxed.new wr _ _).alloc _
      have hbx : Boxed W0 (wr.heap.size + 1) 22 (.int .u64 (x : Int)) := by
        rw [← hW0]; have := Boxed.new (wr.alloc (.cells #[.int .i64 (k : Int)] 3)) 22 (.int .u64 (x : Int)); rwa [World.size_alloc] at this
      have hJ1 : J (numsK X k ++ ([] : List Nat).map (fun i => k * 64 + i), N) W0 := by rw [← hW0]; exact hJ.alloc _ (hJ.alloc _ (by simpa using hJs))
      have hYs0 : Boxed W0 W.heap.size 38 (.func (.yield l) #[] #[]) := boxed_tch hYs t0 (fun e => e)
      have hMs0 := hMs.tch t0 (fun _ _ e => e)
      have hwr := hTs.tch.size
      have hTs0 : Rnd M W N W0 := hTs.tch_right (t0.wide (fun _ e => e.elim))
      have hYl := Boxed.lt hYs
      rw [hW0]
      clear hW0 hYs hMs hJs
      have hNk : ¬ N wr.heap.size := fun e => Nat.lt_irrefl _ (hTs.lt _ e)
      have hMl : ∀ D ∈ Ds, D < W0.heap.size := fun D h => hMs0.lt h
      refine wpIn_rangeFunc_T rfl h1m (gf := 35) (lb := #[.pointer (some ⟨wr.heap.size + 1, 0, none⟩)]) rfl trivial (enters_of Tryd.func35 (by kernel_rfl) rfl)
        (each_T (m - 1) (by omega) (wr.heap.size + 1) x hw64 N W0 hTs0.lt (by omega) (hTs0.not hg hgM) (by omega) hbx.cell (tab_tch hT hg hgM hTs0.tch)) hTs0.lt (fun _ => rfl)
        (fun s V => J (numsK X k ++ s.1.map (fun i => k * 64 + i), s.2) V ∧ Rnd N W0 s.2 V)
        (fun c s V => (c = .ret ∧ Jx (numsK X k ++ s.1.map (fun i => k * 64 + i), s.2) V) ∧ Rnd N W0 s.2 V)
        (OwnFrom.and (ownFrom_mono (fun s X' Y row hs hg hr => hJ (numsK X k ++ s.1.map (fun i => k * 64 + i), s.2) X' Y row hs hg hr) (by omega)) (ownFrom_rnd (Nat.le_refl _) (fun s : List Nat × (Nat → Prop) => s.2)))
        (fun c => OwnFrom.and (fun s X' Y row hs hg hr => ⟨hs.1, hJx _ X' Y row hs.2 hg (fun r e => ⟨by have := (hr r e).1; omega, (hr r e).2⟩)⟩) (ownFrom_rnd (Nat.le_refl _) (fun s : List Nat × (Nat → Prop) => s.2)))
        ⟨hJ1, Rnd.refl hTs0.lt⟩
        (fun i a' _ => a' = { tmps := #[.func (.yield l) #[] #[], .pointer (some ⟨Bs, 0, none⟩), .pointer (some ⟨W.heap.size, 0, none⟩), .pointer (some ⟨wr.heap.size, 0, none⟩), .int .u64 (x : Int), .int .i64 (i : Int), .pointer (some ⟨S, 0, none⟩), .bool false, .pointer (some ⟨S, 0, none⟩), .pointer (some ⟨S, 0, none⟩), .pointer (some ⟨S, 1, none⟩), .slice (some ⟨q, 0, none⟩) X.length X.length, .int .i64 (X.length : Int), .int .i64 (k : Int), .bool true, .int .i64 (k : Int), .pointer (some ⟨q, k, none⟩), .int .u64 (x : Int), .int .u64 (x : Int), .func (.func 35) #[] #[.pointer (some ⟨wr.heap.size + 1, 0, none⟩)], .int .i64 (i : Int), u21, u22, u23, u24, u25, u26, u27, u28], defers := [] })
        (fun _ _ _ _ _ _ hs _ _ => hs) ?assign ?body ?done ?stop
      case assign =>
        intro l2 pre i N1 V K hi _ hK
        gi_wp2
        exact hK _ _ (Tch.refl _ _) hi rfl
      case body =>
        rintro l2 pre i N1 a2 V hl2 _ _ _ ⟨hJv, hTv⟩ rfl hlen
        have by1 := (boxed_tch hYs0 hTv.tch hYn).cell
        have bk1 := (boxed_tch hbk hTv.tch hNk).cell
        obtain ⟨fn, tmps, assign, body, hy, hR⟩ := yieldAt_any (m - 1 - 1 - 1) (hY _ (k * 64 + i) N1 V hJv (by have := hP (pre ++ [i]) hlen; simpa using this))
        have hi64 : i < 64 := by
          have hm : i ∈ bitsL x := hlen.subset (by simp)
          exact List.mem_range.1 (List.mem_filter.1 hm).1
        have ek : ((k * 64 + i : Nat) : Int) = (k : Int) * 64 + (i : Int) := by omega
        rw [ek] at hy
        clear ek
        gi_wp2
        refine ⟨(fun h => by cases h), RoundIn.mono (F := Fence.wide.inRound l2) hR ?_⟩
        clear hR hy
        rintro e V2 ⟨N2, hT2, (⟨rfl, hJ2⟩ | ⟨rfl, hJ2⟩)⟩
        · gi_wp2
          exact ⟨N2, hT2, by simpa using hJ2, hTv.trans hT2⟩
        · gi_wp2
          exact ⟨N2, hT2, ⟨rfl, by simpa using hJ2⟩, hTv.trans hT2⟩
      case done =>
        rintro D N1 V hD hDN ⟨hJv, hTv⟩ hDv
        dsimp only at hJv hTv
        rw [← HX.out] at hJv
        gi_wp2
        exact ⟨⟨k + 1, D :: Ds, N1, _, _, _, _, _, _, _, _, _, _, _, _, _, _, _, _, _, _, hlt, hJv, hTs0.trans hTv, ⟨boxed_tch hYs0 hTv.tch hYn, hTv.not (by omega) hYn⟩,
          ⟨(hMs0.tch hTv.tch hMn).cons (by omega) hDv (fun e => by have := hMs0.lt e; omega), fun E hE => by rcases List.mem_cons.1 hE with rfl | hE; exact hDN; exact hTv.not (hMl E hE) (hMn E hE)⟩, rfl⟩, by simp [intOf]; omega⟩
      case stop =>
        rintro D c pre N1 V hD hDN hpre ⟨⟨rfl, hJv⟩, hTv⟩ hDv
        gi_wp2
        exact leaves_marks (B := W.heap.size) (K := fun V => Jx (numsK X k ++ pre.map (fun i => k * 64 + i), N1) V) (fun _ => hJx _) (fun V h => ⟨_, results_none rfl _ _ _, ⟨_, rfl⟩, .inr ⟨_, hP pre hpre, N1, h⟩⟩) (D :: Ds) V ((hMs0.tch hTv.tch hMn).cons (by omega) hDv (fun e => by have := hMs0.lt e; omega)) hJv
    · have hk' : k = X.length := by omega
      subst hk'
      gi_wp2
      exact leaves_marks (B := W.heap.size) (K := fun V => J (numsK X X.length, N) V) (fun _ => hJ _) (fun V h => ⟨_, results_none rfl _ _ _, ⟨_, rfl⟩, .inl ⟨N, by rw [← numsW_all]; exact h⟩⟩) Ds wr hMs hJs
/-- The numbers of a set, one after the other. -/
theorem all_T (m : Nat) (hm : 3 ≤ m) (Bs S q n : Nat) (X : List Nat) (M : Nat → Prop) (w : World) (hM : ∀ k, M k → k < w.heap.size) (hg : 0 < w.heap.size) (hgM : ¬ M 0)
    (hBs : w.cell? ⟨Bs, 0, none⟩ = some (.pointer (some ⟨S, 0, none⟩))) (hB : Bs < w.heap.size) (hX : BSet S q n X w) (hqM : ¬ M q) (hT : TabAt 0 Lib.deBruijn64tab w) :
    SeqT Fence.wide m Tryd.prog 39 #[.pointer (some ⟨Bs, 0, none⟩)] (fun i : Nat => #[Value.int .i64 (i : Int)]) M (numsW X) w := fun l J Jx W hW hl hlW hJ hJx hY h0 =>
  all1_in m hm l Bs S q n X (ext l M) J Jx W (fun k e => e.elim (fun e => Nat.lt_of_lt_of_le (hM k e) hW.size) (fun e => e ▸ hlW)) hJ hJx hY (Nat.lt_of_lt_of_le hg hW.size) (fun e => e.elim hgM (fun e => by omega))
    ((hW.cell (p := ⟨Bs, 0, none⟩) hB (fun e => e)).trans hBs) (hX.tch hW (fun e => e) (fun e => e)) (fun e => e.elim hqM (fun e => by have := hX.lt.2; omega)) (tab_tch hT hg (fun e => e) hW) h0
/-- No set, no numbers. -/
theorem allNil_T (m Bs : Nat) (M : Nat → Prop) (w : World) (hBs : w.cell? ⟨Bs, 0, none⟩ = some (.pointer none)) (hB : Bs < w.heap.size) :
    SeqT Fence.wide m Tryd.prog 39 #[.pointer (some ⟨Bs, 0, none⟩)] (fun i : Nat => #[Value.int .i64 (i : Int)]) M [] w := fun l J Jx W hW hl hlW hJ hJx hY h0 =>
  (allNil_in m l Bs W ((hW.cell (p := ⟨Bs, 0, none⟩) hB (fun e => e)).trans hBs)).mono (fun _ _ h => ⟨h.1, .inl ⟨ext l M, by rw [h.2]; exact hJ.alloc _ h0⟩⟩)
set_option maxRecDepth 100000 in
set_option maxHeartbeats 2000000 in
theorem allZero_in (n : Nat) (l Bs S : Nat) (W : World) (hBs : W.cell? ⟨Bs, 0, none⟩ = some (.pointer (some ⟨S, 0, none⟩))) (hS : W.cell? ⟨S, 1, none⟩ = some (.slice none 0 0)) :
    CallsIn Fence.wide n Tryd.prog 39 #[.func (.yield l) #[] #[], .pointer (some ⟨Bs, 0, none⟩)] W fun e W' => (∃ v, e = .returned v) ∧ W' = W.alloc (.cells #[.func (.yield l) #[] #[]] 38) := by
  have hB1 := cell_al (.cells #[.func (.yield l) #[] #[]] 38) hBs
  have hS1 := cell_al (.cells #[.func (.yield l) #[] #[]] 38) hS
  refine callsIn_of_wp Tryd.func39 rfl trivial ?_ rfl
  simp only [Tryd.ntmps39, List.size_toArray, List.length_cons, List.length_nil, Nat.reduceAdd, Nat.reduceSub, Array.replicate_succ, Array.replicate_zero, List.push_toArray, List.append_toArray, List.nil_append, List.cons_append]
  gi_wp2
  gi_loopw [13] (fun p wr => p = .int .i64 0 ∧ wr = W.alloc (.cells #[.func (.yield l) #[] #[]] 38)) (fun _ _ => 0)
  case atStart => exact ⟨rfl, rfl⟩
  case round =>
    obtain ⟨rfl, rfl⟩ := hrel
    gi_wp2
    refine bodyPost_end (results_none rfl _ _ _) rfl ?_
    exact ⟨⟨_, rfl⟩, rfl⟩
/-- The zero set has no numbers. -/
theorem allZero_T (m Bs S : Nat) (M : Nat → Prop) (w : World) (hBs : w.cell? ⟨Bs, 0, none⟩ = some (.pointer (some ⟨S, 0, none⟩))) (hB : Bs < w.heap.size) (hS : w.cell? ⟨S, 1, none⟩ = some (.slice none 0 0)) (hSl : S < w.heap.size) :
    SeqT Fence.wide m Tryd.prog 39 #[.pointer (some ⟨Bs, 0, none⟩)] (fun i : Nat => #[Value.int .i64 (i : Int)]) M [] w := fun l J Jx W hW hl hlW hJ hJx hY h0 =>
  (allZero_in m l Bs S W ((hW.cell (p := ⟨Bs, 0, none⟩) hB (fun e => e)).trans hBs) ((hW.cell (p := ⟨S, 1, none⟩) hSl (fun e => e)).trans hS)).mono (fun _ _ h => ⟨h.1, .inl ⟨ext l M, by rw [h.2]; exact hJ.alloc _ h0⟩⟩)
end Go.Proofs.YtikhlcdgibnolaaDoor
