/- The walk of layer 28 (cover): Of. -/
import Derived.Test.YtamhjgkigjpbhaaDoorCv7
import Derived.Laws.EntriesVeiled
import Derived.Deep.OwnRows
namespace Go.Proofs.YtamhjgkigjpbhaaDoor
open Go.RowKit Go.Maps

/-- A row of covers, new. -/
def CovsPost (w : World) (T : List Cov) (en : Ending) (w' : World) : Prop :=
  ∃ v xs, en = .returned v ∧ w'.ownsRow w.heap.size 57 4 v T.length xs ∧ CovsAt w' xs T ∧ Below w.heap.size w w'
/-- Four new blocks. -/
theorem al4 (w : World) (a b c d : Obj) : ∃ W, W = (((w.alloc a).alloc b).alloc c).alloc d ∧ Below w.heap.size w W ∧ W.heap[w.heap.size]? = some a ∧ W.heap[w.heap.size + 1]? = some b ∧ W.heap[w.heap.size + 1 + 1]? = some c ∧ W.heap[w.heap.size + 1 + 1 + 1]? = some d ∧ W.heap.size = w.heap.size + 4 := by
  have n1 := heap_alloc_new w a
  have n2 := heap_alloc_new (w.alloc a) b
  have n3 := heap_alloc_new ((w.alloc a).alloc b) c
  have n4 := heap_alloc_new (((w.alloc a).alloc b).alloc c) d
  simp only [World.size_alloc] at n2 n3 n4
  refine ⟨_, rfl, (((Below.refl _ _).alloc (Nat.le_refl _) _).alloc (by simp) _ |>.alloc (by simp <;> omega) _).alloc (by simp <;> omega) _, ?_, ?_, ?_, n4, by simp⟩
  · rw [Below.heap_alloc _ _ _ (by simp <;> omega), Below.heap_alloc _ _ _ (by simp <;> omega), Below.heap_alloc _ _ _ (by simp)]; exact n1
  · rw [Below.heap_alloc _ _ _ (by simp <;> omega), Below.heap_alloc _ _ _ (by simp)]; exact n2
  · rw [Below.heap_alloc _ _ _ (by simp)]; exact n3
theorem own_madeC {w : World} {base e n : Nat} {v : Value} (hb : base ≤ w.heap.size) (hn : n ≤ maxLen) : (w.alloc (.cells (madeCells #[v] n) e)).ownsRow base e 1 (.slice (some ⟨w.heap.size, 0, none⟩) n n) n (List.replicate n v) := by
  have hm : (madeCells #[v] n).toList = List.replicate n v := toList_madeCells_one _ _
  have hs : (madeCells #[v] n).size = n := by have := congrArg List.length hm; simpa using this
  refine ⟨by simp, .inr ⟨w.heap.size, n, _, rfl, hb, heap_alloc_new w _, Nat.le_refl _, hn, by rw [hs, Nat.mul_one], ?_⟩⟩
  rw [List.take_of_length_le (by rw [Array.length_toList, hs]; omega)]
  exact hm
theorem new_bools (W : World) {n : Nat} (h : n ≤ 1000) : TSl (W.alloc (.cells (madeCells #[.bool false] n) 4)) 4 (some ⟨W.heap.size, 0, none⟩) n n (bcells (List.replicate n false)) := by
  obtain ⟨A, c, hv, ht⟩ := TSl.of_own (own_madeC (w := W) (base := W.heap.size) (e := 4) (n := n) (v := .bool false) (Nat.le_refl _) (by unfold maxLen; omega))
  cases hv
  simpa [bcells] using ht
theorem TSl.drew {w : World} {t n c : Nat} {A : Option Addr} {xs : List Value} (h : TSl w t A n c xs) : TSl w.drew t A n c xs := ⟨{ h.sl with rd := h.sl.rd }, h.ty⟩
def askedL (f : List Nd) (ps : List Int) : List Cov := if goodB f ps = true then coversL f (ps.map Int.toNat) else []
set_option maxHeartbeats 4000000 in
set_option maxRecDepth 100000 in
theorem of_any (A : Option Addr) (c : Nat) (f : List Nd) (Ap : Option Addr) (np cp : Nat) (ps : List Int) (w : World) (hf : Sl w w.heap.size 2 A f.length c (ncells f)) (hp : Sl w w.heap.size 1 Ap np cp (icells ps)) (hnp : np = ps.length) (hl : f.length ≤ 1000) (hpl : np ≤ 100000)
    (hlv : goodB f ps = true → (leaves f (f.length + 1) (startW f.length (ps.map Int.toNat))).length ≤ 1000000) :
    Calls Tryd.prog 35 #[.slice A f.length c, .slice Ap np cp] w (CovsPost w (askedL f ps)) := by
  have hb0 : Below w.heap.size w (w.alloc (.cells #[.slice A f.length c] 22)) := (Below.refl _ _).alloc (Nat.le_refl _) _
  have hx0 := heap_alloc_new w (.cells #[.slice A f.length c] 22)
  have hz0 : (w.alloc (.cells #[.slice A f.length c] 22)).heap.size = w.heap.size + 1 := by simp
  obtain ⟨W0, hW0⟩ : ∃ W0, w.alloc (.cells #[.slice A f.length c] 22) = W0 := ⟨_, rfl⟩
  rw [hW0] at hb0 hx0 hz0
  have hc0 : W0.cell? ⟨w.heap.size, 0, none⟩ = some (.slice A f.length c) := by rw [cell_of_row _ _ 0 _ _ (0, 0) hx0]; rfl
  have HG := Lib.hid (good_any A c f Ap np cp ps W0 w.heap.size (hf.below hb0 (Nat.le_refl _)) (hp.below hb0 (Nat.le_refl _)) hnp hb0.size (by omega) (by omega))
  have HW0 := Lib.hid hW0
  have HF := Lib.hid hf
  have HP := Lib.hid hp
  have HLV := Lib.hid hlv
  have HNP := Lib.hid hnp
  clear hW0 hf hp hlv hnp
  cases hgd : goodB f ps
  · rw [hgd] at HG
    have HA : Hid (askedL f ps = []) := Lib.hid (by unfold askedL; rw [hgd]; rfl)
    clear hgd
    go_enter Tryd.func35, Tryd.ntmps35
    go_wp2_with fail
    rw [HW0.out]
    go_wp2_with fail
    refine Calls.mono HG.out ?_
    rintro e w1 ⟨rfl, hb1⟩
    go_wp2
    go_ret
    rw [HA.out]
    exact ⟨_, [], rfl, World.ownsRow_nil _ _ _ _, CovsAt.nil _, hb0.trans (hb1.mono (by omega))⟩
  · rw [hgd] at HG
    have HA : Hid (askedL f ps = coversL f (ps.map Int.toNat)) := Lib.hid (by unfold askedL; rw [hgd]; rfl)
    have HGD := Lib.hid hgd
    clear hgd
    go_enter Tryd.func35, Tryd.ntmps35
    go_wp2_with fail
    rw [HW0.out]
    go_wp2_with fail
    refine Calls.mono HG.out ?_
    rintro e w1 ⟨rfl, hb1⟩
    have hx1 := (hb1.block w.heap.size (by omega)).trans hx0
    have hc1 : w1.cell? ⟨w.heap.size, 0, none⟩ = some (.slice A f.length c) := by rw [cell_of_row _ _ 0 _ _ (0, 0) hx1]; rfl
    have hmk := run_makeMap (P := Tryd.prog) 97
    go_wp2_with fail
    obtain ⟨W4, hW4, hb4, y0, y1, y2, y3, yz⟩ := al4 w1 (.cells #[.slice none 0 0] 80) (.map #[] 0) (.cells #[.map (some (w1.heap.size + 1))] 97) (.cells #[.func (.func 52) #[] #[.pointer (some ⟨w.heap.size, 0, none⟩), .pointer (some ⟨w1.heap.size + 1 + 1 + 1, 0, none⟩), .pointer (some ⟨w1.heap.size + 1 + 1, 0, none⟩), .pointer (some ⟨w1.heap.size, 0, none⟩)]] 98)
    rw [← hW4]
    have HW4 := Lib.hid hW4
    clear hW4
    have hb01 : Below w.heap.size w w1 := hb0.trans (hb1.mono (by omega))
    have hz1 := hb1.size
    have hb04 := hb01.trans (hb4.mono hb01.size)
    have hx4 := (hb4.block w.heap.size (by omega)).trans hx1
    have hgs : GS w.heap.size w.heap.size (w1.heap.size + 1 + 1 + 1) (w1.heap.size + 1 + 1) (w1.heap.size + 1) w1.heap.size A c f W4 [] (.slice none 0 0) := by
      refine ⟨hx4, y3, y2, y0, ?_, ⟨[], World.ownsRow_nil _ _ _ _, CovsAt.nil _⟩, ⟨by omega, by omega, by omega⟩, HF.out.below hb04 (Nat.le_refl _)⟩
      exact ⟨.map [], ⟨#[], 0, y1, ⟨by simp, MapKept.stamped_empty 0, by simp⟩, Nat.le_refl _, rfl⟩, isMap_empty, fun c kl _ _ => rfl⟩
    have z3 := cell_of_row _ _ 0 _ _ (0, 0) hgs.bg
    have z0 := cell_of_row _ _ 0 _ _ (0, 0) hgs.bf
    simp only [List.getElem?_toArray, List.getElem?_cons_zero] at z3 z0
    have hmk2 := run_make_row' (P := Tryd.prog) 73 4 (.bool false) 1 Tryd.underlying73 infoBool rfl .i64 .i64 f.length (by omega) (by omega)
    have HCL := Lib.hid (fun (w' : World) (hb : Below W4.heap.size W4 w') => cloneInt_any Ap np cp (icells ps) w' w.heap.size ((HP.out.below hb04 (Nat.le_refl _)).below (hb.mono hb04.size |> fun h => hb) hb04.size) (icells_one' _) (Nat.le_trans hb04.size hb.size) (by omega))
    have hall : ps.all (partB f.length) = true ∧ isN f = true := by
      have := HGD.out
      unfold goodB at this
      simp only [Bool.and_eq_true] at this
      exact ⟨this.2, this.1.1⟩
    have hps : natI (ps.map Int.toNat) = ps := by
      unfold natI
      rw [List.map_map]
      refine (List.map_congr_left (fun z hz => ?_)).trans (List.map_id ps)
      have := List.all_eq_true.1 hall.1 z hz
      simp [partB] at this
      simp; omega
    have hok : WOk f (startW f.length (ps.map Int.toNat)) := startW_ok (fun j hj => by
      obtain ⟨z, hz, rfl⟩ := List.mem_map.1 hj
      have := List.all_eq_true.1 hall.1 z hz
      simp [partB] at this
      omega)
    have HGO : Hid (∀ (W : World) (B1 B2 B8 : Option Addr) (d8 : Nat), Below W4.heap.size W4 W → TSl W 4 B1 f.length f.length (bcells (List.replicate f.length false)) → TSl W 4 B2 f.length f.length (bcells (List.replicate f.length false)) → TSl W 3 B8 np d8 (icells ps) →
        Calls Tryd.prog 52 #[.agg #[.int .u64 0, .int .u64 0, .slice B1 f.length f.length, .slice B2 f.length f.length, .slice B8 np d8], .pointer (some ⟨w.heap.size, 0, none⟩), .pointer (some ⟨w1.heap.size + 1 + 1 + 1, 0, none⟩), .pointer (some ⟨w1.heap.size + 1 + 1, 0, none⟩), .pointer (some ⟨w1.heap.size, 0, none⟩)] W
          (GPost w.heap.size w.heap.size (w1.heap.size + 1 + 1 + 1) (w1.heap.size + 1 + 1) (w1.heap.size + 1) w1.heap.size A c f W (.slice none 0 0) (coversL f (ps.map Int.toNat)))) := by
      intro W B1 B2 B8 d8 hbW t1 t2 t3
      have hnp := HNP.out
      have h := goOn_any w.heap.size w.heap.size (w1.heap.size + 1 + 1 + 1) (w1.heap.size + 1 + 1) (w1.heap.size + 1) w1.heap.size A c f hall.2 hl (f.length + 1) (startW f.length (ps.map Int.toNat)) B1 f.length B2 f.length B8 d8 W [] (.slice none 0 0) (hgs.below hbW)
        ⟨by simpa [startW] using t1, by simpa [startW] using t2, by simp only [startW, List.length_map]; rw [hps, ← hnp]; exact t3⟩ hok (by show 0 < 256; omega) (by show 0 < 256; omega) (startW_cnt _ _) (by simp only [startW, List.length_map]; omega) (by simpa using (HLV.out HGD.out))
      have e : (Value.agg #[.int .u64 ((startW f.length (ps.map Int.toNat)).need : Int), .int .u64 ((startW f.length (ps.map Int.toNat)).ban : Int), .slice B1 (startW f.length (ps.map Int.toNat)).now.length f.length, .slice B2 (startW f.length (ps.map Int.toNat)).next.length f.length, .slice B8 (startW f.length (ps.map Int.toNat)).todo.length d8]) =
          .agg #[.int .u64 0, .int .u64 0, .slice B1 f.length f.length, .slice B2 f.length f.length, .slice B8 np d8] := by simp [startW, hnp]
      rw [e] at h
      exact h
    have HGS := Lib.hid hgs
    clear hall hps hok
    clear hgs hx0 hx1 hc0 hc1 hx4 y0 y1 y2 y3 hmk
    go_wp2_with fail
    refine wp_region_held_drew (S := fun w' => w'.cell? ⟨w1.heap.size + 1 + 1 + 1, 0, none⟩ = some (.func (.func 52) #[] #[.pointer (some ⟨w.heap.size, 0, none⟩), .pointer (some ⟨w1.heap.size + 1 + 1 + 1, 0, none⟩), .pointer (some ⟨w1.heap.size + 1 + 1, 0, none⟩), .pointer (some ⟨w1.heap.size, 0, none⟩)]) ∧ w'.cell? ⟨w.heap.size, 0, none⟩ = some (.slice A f.length c)) (by kernel_rfl) ⟨z3, z0⟩ (fun hS => ?_)
    refine wpAnyH_takeD (i := 0) (v := ?_) rfl (by kernel_rfl) (by kernel_rfl) (by kernel_rfl) (fun _ _ _ h => h) (Or.inl ⟨by kernel_rfl, ?_⟩) hS ?_
    rotate_left 1
    · (intro w' hSw; (try dsimp only at hSw); go_simp; try (with_reducible rfl))
    try simp only [Act.put, List.setIfInBounds_toArray, List.set_cons_zero, List.set_cons_succ]
    refine wpAnyH_takeD (i := 1) (v := ?_) rfl (by kernel_rfl) (by kernel_rfl) (by kernel_rfl) (fun _ _ _ h => h) (Or.inl ⟨by kernel_rfl, ?_⟩) hS ?_
    rotate_left 1
    · (intro w' hSw; (try dsimp only at hSw); go_simp; try (with_reducible rfl))
    try simp only [Act.put, List.setIfInBounds_toArray, List.set_cons_zero, List.set_cons_succ]
    refine wpAnyH_takeD (i := 2) (v := ?_) rfl (by kernel_rfl) (by kernel_rfl) (by kernel_rfl) (fun _ _ _ h => h) (Or.inl ⟨by kernel_rfl, ?_⟩) hS ?_
    rotate_left 1
    · (intro w' hSw; (try dsimp only at hSw); go_simp; try (with_reducible rfl))
    try simp only [Act.put, List.setIfInBounds_toArray, List.set_cons_zero, List.set_cons_succ]
    refine wpAnyH_takeD (i := 4) (v := ?_) rfl (by kernel_rfl) (by kernel_rfl) (by kernel_rfl) (fun _ _ _ h => h) (Or.inl ⟨by kernel_rfl, ?_⟩) hS ?_
    rotate_left 1
    · (intro w' hSw; (try dsimp only at hSw); go_simp; try (with_reducible rfl))
    try simp only [Act.put, List.setIfInBounds_toArray, List.set_cons_zero, List.set_cons_succ]
    refine wpAnyH_takeD (i := 5) (v := ?_) rfl (by kernel_rfl) (by kernel_rfl) (by kernel_rfl) (fun _ _ _ h => h) (Or.inl ⟨by kernel_rfl, ?_⟩) hS ?_
    rotate_left 1
    · (intro w' hSw; (try dsimp only at hSw); go_simp; try (with_reducible rfl))
    try simp only [Act.put, List.setIfInBounds_toArray, List.set_cons_zero, List.set_cons_succ]
    refine wpAnyH_takeD (i := 7) (v := ?_) rfl (by kernel_rfl) (by kernel_rfl) (by kernel_rfl) (fun _ _ _ h => h) (Or.inl ⟨by kernel_rfl, ?_⟩) hS ?_
    rotate_left 1
    · (intro w' hSw; (try dsimp only at hSw); go_simp; try (with_reducible rfl))
    try simp only [Act.put, List.setIfInBounds_toArray, List.set_cons_zero, List.set_cons_succ]
    refine wpAnyH_ready (rs := [3, 6, 8]) (by kernel_rfl) (by simp) ?_
    refine (allReadyH_consD (i := 3) rfl (fun K hK => ?_) (allReadyH_consD (i := 6) rfl (fun K hK => ?_) (allReadyH_consD (i := 8) rfl (fun K hK => ?_) AllReadyH.nil)))
    · skip
      go_simp
      obtain ⟨W1_, hw1⟩ : ∃ V, V = (W4.alloc (.cells (madeCells #[.bool false] f.length) 4)).drew := ⟨_, rfl⟩
      have hq1 : Below W4.heap.size W4 W1_ := by rw [hw1]; exact ((Below.refl _ _).alloc (Nat.le_refl _) _).drew
      have ht1 : TSl W1_ 4 (some ⟨W4.heap.size, 0, none⟩) f.length f.length (bcells (List.replicate f.length false)) := by rw [hw1]; exact (new_bools W4 (by omega)).drew
      rw [← hw1]
      clear hw1
      rw [yz] at ht1
      have hB1 : Below W4.heap.size W4 W1_ := hq1
      refine hK.out _ _ ⟨(hB1.cell (p := ⟨w1.heap.size + 1 + 1 + 1, 0, none⟩) (show w1.heap.size + 1 + 1 + 1 < W4.heap.size by omega)).trans z3, (hB1.cell (p := ⟨w.heap.size, 0, none⟩) (show w.heap.size < W4.heap.size by omega)).trans z0⟩ (fun hS => ?_)
      clear hK
      try simp only [Act.put, List.setIfInBounds_toArray, List.set_cons_zero, List.set_cons_succ]
      refine wpAnyH_ready (rs := [6, 8]) (by kernel_rfl) (by simp) ?_
      refine (allReadyH_consD (i := 6) rfl (fun K hK => ?_) (allReadyH_consD (i := 8) rfl (fun K hK => ?_) AllReadyH.nil))
      · skip
        go_simp
        obtain ⟨W2_, hw2⟩ : ∃ V, V = W1_.alloc (.cells (madeCells #[.bool false] f.length) 4) := ⟨_, rfl⟩
        have hq2 : Below W1_.heap.size W1_ W2_ := by rw [hw2]; exact (Below.refl _ _).alloc (Nat.le_refl _) _
        have ht2 : TSl W2_ 4 (some ⟨W1_.heap.size, 0, none⟩) f.length f.length (bcells (List.replicate f.length false)) := by rw [hw2]; exact new_bools _ (by omega)
        rw [← hw2]
        clear hw2
        have tn_2 := ht1.below hq2
        have hB2 : Below W4.heap.size W4 W2_ := hB1.trans (hq2.mono hB1.size)
        refine hK.out _ _ ⟨(hB2.cell (p := ⟨w1.heap.size + 1 + 1 + 1, 0, none⟩) (show w1.heap.size + 1 + 1 + 1 < W4.heap.size by omega)).trans z3, (hB2.cell (p := ⟨w.heap.size, 0, none⟩) (show w.heap.size < W4.heap.size by omega)).trans z0⟩ (fun hS => ?_)
        clear hK
        try simp only [Act.put, List.setIfInBounds_toArray, List.set_cons_zero, List.set_cons_succ]
        refine wpAnyH_oneD (i := 8) rfl (by kernel_rfl) (fun K hK => ?_)
        go_simp
        refine Calls.mono (HCL.out _ hB2) ?_
        rintro e W3_ ⟨v8, rfl, ho8, hq3', -⟩
        have hq3 : Below W2_.heap.size W2_ W3_ := hq3'
        obtain ⟨A8, c8, rfl, ht3⟩ := TSl.of_own ho8
        clear ho8 hq3'
        have tn_3 := tn_2.below hq3
        have tx_3 := ht2.below hq3
        have hB3 : Below W4.heap.size W4 W3_ := hB2.trans (hq3.mono hB2.size)
        dsimp only
        refine hK.out _ _ ⟨(hB3.cell (p := ⟨w1.heap.size + 1 + 1 + 1, 0, none⟩) (show w1.heap.size + 1 + 1 + 1 < W4.heap.size by omega)).trans z3, (hB3.cell (p := ⟨w.heap.size, 0, none⟩) (show w.heap.size < W4.heap.size by omega)).trans z0⟩ (fun hS => ?_)
        clear hK
        try simp only [Act.put, List.setIfInBounds_toArray, List.set_cons_zero, List.set_cons_succ]
        refine wpAnyH_takeD (i := 9) (v := ?_) rfl (by kernel_rfl) (by kernel_rfl) (by kernel_rfl) (fun _ _ _ h => h) (Or.inl ⟨by kernel_rfl, ?_⟩) hS ?_
        rotate_left 1
        · (intro w' hSw; (try dsimp only at hSw); go_simp; try (with_reducible rfl))
        try simp only [Act.put, List.setIfInBounds_toArray, List.set_cons_zero, List.set_cons_succ]
        refine wpAnyH_oneD (i := 10) rfl (by kernel_rfl) (fun K hK => ?_)
        go_simp
        refine Calls.mono (HGO.out _ _ _ _ _ hB3 tn_3 tx_3 ht3) ?_
        rintro e W9 ⟨rfl, v9, hg9, ht9, -⟩
        have b3 := cell_of_row _ _ 0 _ _ (0, 0) hg9.bg
        have b0 := cell_of_row _ _ 0 _ _ (0, 0) hg9.bf
        have bo := cell_of_row _ _ 0 _ _ (0, 0) hg9.bo
        simp only [List.getElem?_toArray, List.getElem?_cons_zero] at b3 b0 bo
        dsimp only
        refine hK.out _ _ ⟨b3, b0⟩ (fun hS => ?_)
        clear hK
        try simp only [Act.put, List.setIfInBounds_toArray, List.set_cons_zero, List.set_cons_succ]
        refine wpAnyH_done (by kernel_rfl) ?_ _
        have hbc := hb04.trans (hB3.mono hb04.size)
        have hbE : Below w.heap.size w W9 := hbc.trans (ht9.below hbc.size (fun k hk e => by
          rcases e with e | e | e
          · omega
          · omega
          · simp [Value.ownBlock] at e))
        obtain ⟨xs, ho9, hc9⟩ := hg9.out
        have HO9 := Lib.hid ho9
        have HC9 := Lib.hid hc9
        clear hS ho9 hc9 hg9 ht9
        go_wp2
        go_ret
        rw [HA.out]
        exact ⟨v9, xs, rfl, HO9.out, HC9.out, hbE⟩
      · skip
        go_simp
        refine Calls.mono (HCL.out _ hB1) ?_
        rintro e W5_ ⟨v8, rfl, ho8, hq5', -⟩
        have hq5 : Below W1_.heap.size W1_ W5_ := hq5'
        obtain ⟨A8, c8, rfl, ht5⟩ := TSl.of_own ho8
        clear ho8 hq5'
        have tn_5 := ht1.below hq5
        have hB5 : Below W4.heap.size W4 W5_ := hB1.trans (hq5.mono hB1.size)
        dsimp only
        refine hK.out _ _ ⟨(hB5.cell (p := ⟨w1.heap.size + 1 + 1 + 1, 0, none⟩) (show w1.heap.size + 1 + 1 + 1 < W4.heap.size by omega)).trans z3, (hB5.cell (p := ⟨w.heap.size, 0, none⟩) (show w.heap.size < W4.heap.size by omega)).trans z0⟩ (fun hS => ?_)
        clear hK
        try simp only [Act.put, List.setIfInBounds_toArray, List.set_cons_zero, List.set_cons_succ]
        refine wpAnyH_oneD (i := 6) rfl (by kernel_rfl) (fun K hK => ?_)
        go_simp
        obtain ⟨W6_, hw6⟩ : ∃ V, V = W5_.alloc (.cells (madeCells #[.bool false] f.length) 4) := ⟨_, rfl⟩
        have hq6 : Below W5_.heap.size W5_ W6_ := by rw [hw6]; exact (Below.refl _ _).alloc (Nat.le_refl _) _
        have ht6 : TSl W6_ 4 (some ⟨W5_.heap.size, 0, none⟩) f.length f.length (bcells (List.replicate f.length false)) := by rw [hw6]; exact new_bools _ (by omega)
        rw [← hw6]
        clear hw6
        have tn_6 := tn_5.below hq6
        have tt_6 := ht5.below hq6
        have hB6 : Below W4.heap.size W4 W6_ := hB5.trans (hq6.mono hB5.size)
        refine hK.out _ _ ⟨(hB6.cell (p := ⟨w1.heap.size + 1 + 1 + 1, 0, none⟩) (show w1.heap.size + 1 + 1 + 1 < W4.heap.size by omega)).trans z3, (hB6.cell (p := ⟨w.heap.size, 0, none⟩) (show w.heap.size < W4.heap.size by omega)).trans z0⟩ (fun hS => ?_)
        clear hK
        try simp only [Act.put, List.setIfInBounds_toArray, List.set_cons_zero, List.set_cons_succ]
        refine wpAnyH_takeD (i := 9) (v := ?_) rfl (by kernel_rfl) (by kernel_rfl) (by kernel_rfl) (fun _ _ _ h => h) (Or.inl ⟨by kernel_rfl, ?_⟩) hS ?_
        rotate_left 1
        · (intro w' hSw; (try dsimp only at hSw); go_simp; try (with_reducible rfl))
        try simp only [Act.put, List.setIfInBounds_toArray, List.set_cons_zero, List.set_cons_succ]
        refine wpAnyH_oneD (i := 10) rfl (by kernel_rfl) (fun K hK => ?_)
        go_simp
        refine Calls.mono (HGO.out _ _ _ _ _ hB6 tn_6 ht6 tt_6) ?_
        rintro e W9 ⟨rfl, v9, hg9, ht9, -⟩
        have b3 := cell_of_row _ _ 0 _ _ (0, 0) hg9.bg
        have b0 := cell_of_row _ _ 0 _ _ (0, 0) hg9.bf
        have bo := cell_of_row _ _ 0 _ _ (0, 0) hg9.bo
        simp only [List.getElem?_toArray, List.getElem?_cons_zero] at b3 b0 bo
        dsimp only
        refine hK.out _ _ ⟨b3, b0⟩ (fun hS => ?_)
        clear hK
        try simp only [Act.put, List.setIfInBounds_toArray, List.set_cons_zero, List.set_cons_succ]
        refine wpAnyH_done (by kernel_rfl) ?_ _
        have hbc := hb04.trans (hB6.mono hb04.size)
        have hbE : Below w.heap.size w W9 := hbc.trans (ht9.below hbc.size (fun k hk e => by
          rcases e with e | e | e
          · omega
          · omega
          · simp [Value.ownBlock] at e))
        obtain ⟨xs, ho9, hc9⟩ := hg9.out
        have HO9 := Lib.hid ho9
        have HC9 := Lib.hid hc9
        clear hS ho9 hc9 hg9 ht9
        go_wp2
        go_ret
        rw [HA.out]
        exact ⟨v9, xs, rfl, HO9.out, HC9.out, hbE⟩
    · skip
      go_simp
      obtain ⟨W8_, hw8⟩ : ∃ V, V = (W4.alloc (.cells (madeCells #[.bool false] f.length) 4)).drew := ⟨_, rfl⟩
      have hq8 : Below W4.heap.size W4 W8_ := by rw [hw8]; exact ((Below.refl _ _).alloc (Nat.le_refl _) _).drew
      have ht8 : TSl W8_ 4 (some ⟨W4.heap.size, 0, none⟩) f.length f.length (bcells (List.replicate f.length false)) := by rw [hw8]; exact (new_bools W4 (by omega)).drew
      rw [← hw8]
      clear hw8
      rw [yz] at ht8
      have hB8 : Below W4.heap.size W4 W8_ := hq8
      refine hK.out _ _ ⟨(hB8.cell (p := ⟨w1.heap.size + 1 + 1 + 1, 0, none⟩) (show w1.heap.size + 1 + 1 + 1 < W4.heap.size by omega)).trans z3, (hB8.cell (p := ⟨w.heap.size, 0, none⟩) (show w.heap.size < W4.heap.size by omega)).trans z0⟩ (fun hS => ?_)
      clear hK
      try simp only [Act.put, List.setIfInBounds_toArray, List.set_cons_zero, List.set_cons_succ]
      refine wpAnyH_ready (rs := [3, 8]) (by kernel_rfl) (by simp) ?_
      refine (allReadyH_consD (i := 3) rfl (fun K hK => ?_) (allReadyH_consD (i := 8) rfl (fun K hK => ?_) AllReadyH.nil))
      · skip
        go_simp
        obtain ⟨W9_, hw9⟩ : ∃ V, V = W8_.alloc (.cells (madeCells #[.bool false] f.length) 4) := ⟨_, rfl⟩
        have hq9 : Below W8_.heap.size W8_ W9_ := by rw [hw9]; exact (Below.refl _ _).alloc (Nat.le_refl _) _
        have ht9 : TSl W9_ 4 (some ⟨W8_.heap.size, 0, none⟩) f.length f.length (bcells (List.replicate f.length false)) := by rw [hw9]; exact new_bools _ (by omega)
        rw [← hw9]
        clear hw9
        have tx_9 := ht8.below hq9
        have hB9 : Below W4.heap.size W4 W9_ := hB8.trans (hq9.mono hB8.size)
        refine hK.out _ _ ⟨(hB9.cell (p := ⟨w1.heap.size + 1 + 1 + 1, 0, none⟩) (show w1.heap.size + 1 + 1 + 1 < W4.heap.size by omega)).trans z3, (hB9.cell (p := ⟨w.heap.size, 0, none⟩) (show w.heap.size < W4.heap.size by omega)).trans z0⟩ (fun hS => ?_)
        clear hK
        try simp only [Act.put, List.setIfInBounds_toArray, List.set_cons_zero, List.set_cons_succ]
        refine wpAnyH_oneD (i := 8) rfl (by kernel_rfl) (fun K hK => ?_)
        go_simp
        refine Calls.mono (HCL.out _ hB9) ?_
        rintro e W10_ ⟨v8, rfl, ho8, hq10', -⟩
        have hq10 : Below W9_.heap.size W9_ W10_ := hq10'
        obtain ⟨A8, c8, rfl, ht10⟩ := TSl.of_own ho8
        clear ho8 hq10'
        have tx_10 := tx_9.below hq10
        have tn_10 := ht9.below hq10
        have hB10 : Below W4.heap.size W4 W10_ := hB9.trans (hq10.mono hB9.size)
        dsimp only
        refine hK.out _ _ ⟨(hB10.cell (p := ⟨w1.heap.size + 1 + 1 + 1, 0, none⟩) (show w1.heap.size + 1 + 1 + 1 < W4.heap.size by omega)).trans z3, (hB10.cell (p := ⟨w.heap.size, 0, none⟩) (show w.heap.size < W4.heap.size by omega)).trans z0⟩ (fun hS => ?_)
        clear hK
        try simp only [Act.put, List.setIfInBounds_toArray, List.set_cons_zero, List.set_cons_succ]
        refine wpAnyH_takeD (i := 9) (v := ?_) rfl (by kernel_rfl) (by kernel_rfl) (by kernel_rfl) (fun _ _ _ h => h) (Or.inl ⟨by kernel_rfl, ?_⟩) hS ?_
        rotate_left 1
        · (intro w' hSw; (try dsimp only at hSw); go_simp; try (with_reducible rfl))
        try simp only [Act.put, List.setIfInBounds_toArray, List.set_cons_zero, List.set_cons_succ]
        refine wpAnyH_oneD (i := 10) rfl (by kernel_rfl) (fun K hK => ?_)
        go_simp
        refine Calls.mono (HGO.out _ _ _ _ _ hB10 tn_10 tx_10 ht10) ?_
        rintro e W9 ⟨rfl, v9, hg9, ht9, -⟩
        have b3 := cell_of_row _ _ 0 _ _ (0, 0) hg9.bg
        have b0 := cell_of_row _ _ 0 _ _ (0, 0) hg9.bf
        have bo := cell_of_row _ _ 0 _ _ (0, 0) hg9.bo
        simp only [List.getElem?_toArray, List.getElem?_cons_zero] at b3 b0 bo
        dsimp only
        refine hK.out _ _ ⟨b3, b0⟩ (fun hS => ?_)
        clear hK
        try simp only [Act.put, List.setIfInBounds_toArray, List.set_cons_zero, List.set_cons_succ]
        refine wpAnyH_done (by kernel_rfl) ?_ _
        have hbc := hb04.trans (hB10.mono hb04.size)
        have hbE : Below w.heap.size w W9 := hbc.trans (ht9.below hbc.size (fun k hk e => by
          rcases e with e | e | e
          · omega
          · omega
          · simp [Value.ownBlock] at e))
        obtain ⟨xs, ho9, hc9⟩ := hg9.out
        have HO9 := Lib.hid ho9
        have HC9 := Lib.hid hc9
        clear hS ho9 hc9 hg9 ht9
        go_wp2
        go_ret
        rw [HA.out]
        exact ⟨v9, xs, rfl, HO9.out, HC9.out, hbE⟩
      · skip
        go_simp
        refine Calls.mono (HCL.out _ hB8) ?_
        rintro e W12_ ⟨v8, rfl, ho8, hq12', -⟩
        have hq12 : Below W8_.heap.size W8_ W12_ := hq12'
        obtain ⟨A8, c8, rfl, ht12⟩ := TSl.of_own ho8
        clear ho8 hq12'
        have tx_12 := ht8.below hq12
        have hB12 : Below W4.heap.size W4 W12_ := hB8.trans (hq12.mono hB8.size)
        dsimp only
        refine hK.out _ _ ⟨(hB12.cell (p := ⟨w1.heap.size + 1 + 1 + 1, 0, none⟩) (show w1.heap.size + 1 + 1 + 1 < W4.heap.size by omega)).trans z3, (hB12.cell (p := ⟨w.heap.size, 0, none⟩) (show w.heap.size < W4.heap.size by omega)).trans z0⟩ (fun hS => ?_)
        clear hK
        try simp only [Act.put, List.setIfInBounds_toArray, List.set_cons_zero, List.set_cons_succ]
        refine wpAnyH_oneD (i := 3) rfl (by kernel_rfl) (fun K hK => ?_)
        go_simp
        obtain ⟨W13_, hw13⟩ : ∃ V, V = W12_.alloc (.cells (madeCells #[.bool false] f.length) 4) := ⟨_, rfl⟩
        have hq13 : Below W12_.heap.size W12_ W13_ := by rw [hw13]; exact (Below.refl _ _).alloc (Nat.le_refl _) _
        have ht13 : TSl W13_ 4 (some ⟨W12_.heap.size, 0, none⟩) f.length f.length (bcells (List.replicate f.length false)) := by rw [hw13]; exact new_bools _ (by omega)
        rw [← hw13]
        clear hw13
        have tx_13 := tx_12.below hq13
        have tt_13 := ht12.below hq13
        have hB13 : Below W4.heap.size W4 W13_ := hB12.trans (hq13.mono hB12.size)
        refine hK.out _ _ ⟨(hB13.cell (p := ⟨w1.heap.size + 1 + 1 + 1, 0, none⟩) (show w1.heap.size + 1 + 1 + 1 < W4.heap.size by omega)).trans z3, (hB13.cell (p := ⟨w.heap.size, 0, none⟩) (show w.heap.size < W4.heap.size by omega)).trans z0⟩ (fun hS => ?_)
        clear hK
        try simp only [Act.put, List.setIfInBounds_toArray, List.set_cons_zero, List.set_cons_succ]
        refine wpAnyH_takeD (i := 9) (v := ?_) rfl (by kernel_rfl) (by kernel_rfl) (by kernel_rfl) (fun _ _ _ h => h) (Or.inl ⟨by kernel_rfl, ?_⟩) hS ?_
        rotate_left 1
        · (intro w' hSw; (try dsimp only at hSw); go_simp; try (with_reducible rfl))
        try simp only [Act.put, List.setIfInBounds_toArray, List.set_cons_zero, List.set_cons_succ]
        refine wpAnyH_oneD (i := 10) rfl (by kernel_rfl) (fun K hK => ?_)
        go_simp
        refine Calls.mono (HGO.out _ _ _ _ _ hB13 ht13 tx_13 tt_13) ?_
        rintro e W9 ⟨rfl, v9, hg9, ht9, -⟩
        have b3 := cell_of_row _ _ 0 _ _ (0, 0) hg9.bg
        have b0 := cell_of_row _ _ 0 _ _ (0, 0) hg9.bf
        have bo := cell_of_row _ _ 0 _ _ (0, 0) hg9.bo
        simp only [List.getElem?_toArray, List.getElem?_cons_zero] at b3 b0 bo
        dsimp only
        refine hK.out _ _ ⟨b3, b0⟩ (fun hS => ?_)
        clear hK
        try simp only [Act.put, List.setIfInBounds_toArray, List.set_cons_zero, List.set_cons_succ]
        refine wpAnyH_done (by kernel_rfl) ?_ _
        have hbc := hb04.trans (hB13.mono hb04.size)
        have hbE : Below w.heap.size w W9 := hbc.trans (ht9.below hbc.size (fun k hk e => by
          rcases e with e | e | e
          · omega
          · omega
          · simp [Value.ownBlock] at e))
        obtain ⟨xs, ho9, hc9⟩ := hg9.out
        have HO9 := Lib.hid ho9
        have HC9 := Lib.hid hc9
        clear hS ho9 hc9 hg9 ht9
        go_wp2
        go_ret
        rw [HA.out]
        exact ⟨v9, xs, rfl, HO9.out, HC9.out, hbE⟩
    · skip
      go_simp
      refine Calls.mono (HCL.out _ (Below.refl _ _).drew) ?_
      rintro e W15_ ⟨v8, rfl, ho8, hq15', -⟩
      have hq15 : Below W4.heap.size W4 W15_ := below_undrew hq15'
      obtain ⟨A8, c8, rfl, ht15⟩ := TSl.of_own ho8
      clear ho8 hq15'
      have hB15 : Below W4.heap.size W4 W15_ := hq15
      dsimp only
      refine hK.out _ _ ⟨(hB15.cell (p := ⟨w1.heap.size + 1 + 1 + 1, 0, none⟩) (show w1.heap.size + 1 + 1 + 1 < W4.heap.size by omega)).trans z3, (hB15.cell (p := ⟨w.heap.size, 0, none⟩) (show w.heap.size < W4.heap.size by omega)).trans z0⟩ (fun hS => ?_)
      clear hK
      try simp only [Act.put, List.setIfInBounds_toArray, List.set_cons_zero, List.set_cons_succ]
      refine wpAnyH_ready (rs := [3, 6]) (by kernel_rfl) (by simp) ?_
      refine (allReadyH_consD (i := 3) rfl (fun K hK => ?_) (allReadyH_consD (i := 6) rfl (fun K hK => ?_) AllReadyH.nil))
      · skip
        go_simp
        obtain ⟨W16_, hw16⟩ : ∃ V, V = W15_.alloc (.cells (madeCells #[.bool false] f.length) 4) := ⟨_, rfl⟩
        have hq16 : Below W15_.heap.size W15_ W16_ := by rw [hw16]; exact (Below.refl _ _).alloc (Nat.le_refl _) _
        have ht16 : TSl W16_ 4 (some ⟨W15_.heap.size, 0, none⟩) f.length f.length (bcells (List.replicate f.length false)) := by rw [hw16]; exact new_bools _ (by omega)
        rw [← hw16]
        clear hw16
        have tt_16 := ht15.below hq16
        have hB16 : Below W4.heap.size W4 W16_ := hB15.trans (hq16.mono hB15.size)
        refine hK.out _ _ ⟨(hB16.cell (p := ⟨w1.heap.size + 1 + 1 + 1, 0, none⟩) (show w1.heap.size + 1 + 1 + 1 < W4.heap.size by omega)).trans z3, (hB16.cell (p := ⟨w.heap.size, 0, none⟩) (show w.heap.size < W4.heap.size by omega)).trans z0⟩ (fun hS => ?_)
        clear hK
        try simp only [Act.put, List.setIfInBounds_toArray, List.set_cons_zero, List.set_cons_succ]
        refine wpAnyH_oneD (i := 6) rfl (by kernel_rfl) (fun K hK => ?_)
        go_simp
        obtain ⟨W17_, hw17⟩ : ∃ V, V = W16_.alloc (.cells (madeCells #[.bool false] f.length) 4) := ⟨_, rfl⟩
        have hq17 : Below W16_.heap.size W16_ W17_ := by rw [hw17]; exact (Below.refl _ _).alloc (Nat.le_refl _) _
        have ht17 : TSl W17_ 4 (some ⟨W16_.heap.size, 0, none⟩) f.length f.length (bcells (List.replicate f.length false)) := by rw [hw17]; exact new_bools _ (by omega)
        rw [← hw17]
        clear hw17
        have tt_17 := tt_16.below hq17
        have tn_17 := ht16.below hq17
        have hB17 : Below W4.heap.size W4 W17_ := hB16.trans (hq17.mono hB16.size)
        refine hK.out _ _ ⟨(hB17.cell (p := ⟨w1.heap.size + 1 + 1 + 1, 0, none⟩) (show w1.heap.size + 1 + 1 + 1 < W4.heap.size by omega)).trans z3, (hB17.cell (p := ⟨w.heap.size, 0, none⟩) (show w.heap.size < W4.heap.size by omega)).trans z0⟩ (fun hS => ?_)
        clear hK
        try simp only [Act.put, List.setIfInBounds_toArray, List.set_cons_zero, List.set_cons_succ]
        refine wpAnyH_takeD (i := 9) (v := ?_) rfl (by kernel_rfl) (by kernel_rfl) (by kernel_rfl) (fun _ _ _ h => h) (Or.inl ⟨by kernel_rfl, ?_⟩) hS ?_
        rotate_left 1
        · (intro w' hSw; (try dsimp only at hSw); go_simp; try (with_reducible rfl))
        try simp only [Act.put, List.setIfInBounds_toArray, List.set_cons_zero, List.set_cons_succ]
        refine wpAnyH_oneD (i := 10) rfl (by kernel_rfl) (fun K hK => ?_)
        go_simp
        refine Calls.mono (HGO.out _ _ _ _ _ hB17 tn_17 ht17 tt_17) ?_
        rintro e W9 ⟨rfl, v9, hg9, ht9, -⟩
        have b3 := cell_of_row _ _ 0 _ _ (0, 0) hg9.bg
        have b0 := cell_of_row _ _ 0 _ _ (0, 0) hg9.bf
        have bo := cell_of_row _ _ 0 _ _ (0, 0) hg9.bo
        simp only [List.getElem?_toArray, List.getElem?_cons_zero] at b3 b0 bo
        dsimp only
        refine hK.out _ _ ⟨b3, b0⟩ (fun hS => ?_)
        clear hK
        try simp only [Act.put, List.setIfInBounds_toArray, List.set_cons_zero, List.set_cons_succ]
        refine wpAnyH_done (by kernel_rfl) ?_ _
        have hbc := hb04.trans (hB17.mono hb04.size)
        have hbE : Below w.heap.size w W9 := hbc.trans (ht9.below hbc.size (fun k hk e => by
          rcases e with e | e | e
          · omega
          · omega
          · simp [Value.ownBlock] at e))
        obtain ⟨xs, ho9, hc9⟩ := hg9.out
        have HO9 := Lib.hid ho9
        have HC9 := Lib.hid hc9
        clear hS ho9 hc9 hg9 ht9
        go_wp2
        go_ret
        rw [HA.out]
        exact ⟨v9, xs, rfl, HO9.out, HC9.out, hbE⟩
      · skip
        go_simp
        obtain ⟨W19_, hw19⟩ : ∃ V, V = W15_.alloc (.cells (madeCells #[.bool false] f.length) 4) := ⟨_, rfl⟩
        have hq19 : Below W15_.heap.size W15_ W19_ := by rw [hw19]; exact (Below.refl _ _).alloc (Nat.le_refl _) _
        have ht19 : TSl W19_ 4 (some ⟨W15_.heap.size, 0, none⟩) f.length f.length (bcells (List.replicate f.length false)) := by rw [hw19]; exact new_bools _ (by omega)
        rw [← hw19]
        clear hw19
        have tt_19 := ht15.below hq19
        have hB19 : Below W4.heap.size W4 W19_ := hB15.trans (hq19.mono hB15.size)
        refine hK.out _ _ ⟨(hB19.cell (p := ⟨w1.heap.size + 1 + 1 + 1, 0, none⟩) (show w1.heap.size + 1 + 1 + 1 < W4.heap.size by omega)).trans z3, (hB19.cell (p := ⟨w.heap.size, 0, none⟩) (show w.heap.size < W4.heap.size by omega)).trans z0⟩ (fun hS => ?_)
        clear hK
        try simp only [Act.put, List.setIfInBounds_toArray, List.set_cons_zero, List.set_cons_succ]
        refine wpAnyH_oneD (i := 3) rfl (by kernel_rfl) (fun K hK => ?_)
        go_simp
        obtain ⟨W20_, hw20⟩ : ∃ V, V = W19_.alloc (.cells (madeCells #[.bool false] f.length) 4) := ⟨_, rfl⟩
        have hq20 : Below W19_.heap.size W19_ W20_ := by rw [hw20]; exact (Below.refl _ _).alloc (Nat.le_refl _) _
        have ht20 : TSl W20_ 4 (some ⟨W19_.heap.size, 0, none⟩) f.length f.length (bcells (List.replicate f.length false)) := by rw [hw20]; exact new_bools _ (by omega)
        rw [← hw20]
        clear hw20
        have tt_20 := tt_19.below hq20
        have tx_20 := ht19.below hq20
        have hB20 : Below W4.heap.size W4 W20_ := hB19.trans (hq20.mono hB19.size)
        refine hK.out _ _ ⟨(hB20.cell (p := ⟨w1.heap.size + 1 + 1 + 1, 0, none⟩) (show w1.heap.size + 1 + 1 + 1 < W4.heap.size by omega)).trans z3, (hB20.cell (p := ⟨w.heap.size, 0, none⟩) (show w.heap.size < W4.heap.size by omega)).trans z0⟩ (fun hS => ?_)
        clear hK
        try simp only [Act.put, List.setIfInBounds_toArray, List.set_cons_zero, List.set_cons_succ]
        refine wpAnyH_takeD (i := 9) (v := ?_) rfl (by kernel_rfl) (by kernel_rfl) (by kernel_rfl) (fun _ _ _ h => h) (Or.inl ⟨by kernel_rfl, ?_⟩) hS ?_
        rotate_left 1
        · (intro w' hSw; (try dsimp only at hSw); go_simp; try (with_reducible rfl))
        try simp only [Act.put, List.setIfInBounds_toArray, List.set_cons_zero, List.set_cons_succ]
        refine wpAnyH_oneD (i := 10) rfl (by kernel_rfl) (fun K hK => ?_)
        go_simp
        refine Calls.mono (HGO.out _ _ _ _ _ hB20 ht20 tx_20 tt_20) ?_
        rintro e W9 ⟨rfl, v9, hg9, ht9, -⟩
        have b3 := cell_of_row _ _ 0 _ _ (0, 0) hg9.bg
        have b0 := cell_of_row _ _ 0 _ _ (0, 0) hg9.bf
        have bo := cell_of_row _ _ 0 _ _ (0, 0) hg9.bo
        simp only [List.getElem?_toArray, List.getElem?_cons_zero] at b3 b0 bo
        dsimp only
        refine hK.out _ _ ⟨b3, b0⟩ (fun hS => ?_)
        clear hK
        try simp only [Act.put, List.setIfInBounds_toArray, List.set_cons_zero, List.set_cons_succ]
        refine wpAnyH_done (by kernel_rfl) ?_ _
        have hbc := hb04.trans (hB20.mono hb04.size)
        have hbE : Below w.heap.size w W9 := hbc.trans (ht9.below hbc.size (fun k hk e => by
          rcases e with e | e | e
          · omega
          · omega
          · simp [Value.ownBlock] at e))
        obtain ⟨xs, ho9, hc9⟩ := hg9.out
        have HO9 := Lib.hid ho9
        have HC9 := Lib.hid hc9
        clear hS ho9 hc9 hg9 ht9
        go_wp2
        go_ret
        rw [HA.out]
        exact ⟨v9, xs, rfl, HO9.out, HC9.out, hbE⟩
end Go.Proofs.YtamhjgkigjpbhaaDoor
