/- The walk of fix: round. -/
import Derived.Test.YtfpncpjdmgfkbaaFx16
import Derived.Test.YtfpncpjdmgfkbaaRegU
import Derived.Test.YtfpncpjdmgfkbaaGr16
namespace Go.Proofs.Ytfpncpjdmgfkbaa
open Go.RowKit

theorem slice_from {A : Option Addr} {n c k : Nat} {i : Int} (hi : i = k) (hk : k ≤ n) (w : World) : (Instr.sliceAt 22 (.slice A n c) (some (.int .i64 i)) none none).run Try.prog w = .ok (.slice (if c = k then A else A.map (·.add (k * 1))) (n - k) (c - k)) w := by
  subst hi
  rw [run_sliceAt_slice _ _ _ _ _ _ (by kernel_rfl), run_slice_l _ _ _ _ _ (by kernel_rfl) _ _ (by omega) (by omega)]
  have : (sizeOf (Try.prog.elem 22)).run Try.prog w = .ok 1 w := by kernel_rfl
  rw [this]
  simp [Result.andThen, sliced]
theorem Rnd.last {E : List (List Nd)} {z : List Bool} {sets : List (List Bool)} {W0 W : List Int} {k : Nat} (h : Rnd E z sets W0 k W) : ∃ (a : List Int) (x : Int), W = a ++ [x] ∧ hasB z x = true ∧ W.length ≤ W0.length + (1 + k * E.length) := by
  obtain ⟨m, rfl, h1, h2, _, h4⟩ := h.ex
  obtain ⟨b, x, hb⟩ : ∃ (b : List Int) (x : Int), m = b ++ [x] := ⟨m.dropLast, m.getLast h1, (List.dropLast_concat_getLast h1).symm⟩
  exact ⟨W0 ++ b, x, by rw [hb, List.append_assoc], h2 x (by rw [hb]; simp), by rw [List.length_append]; omega⟩
theorem tch_allocs {S : Nat → Prop} {w w' : World} (o : Obj) (h : Tch S (w.alloc o) w') : Tch S w w' := Tch.trans ((Tch.refl S w).alloc o) h (fun _ _ h => h)

section
variable (ae : Option Addr) (ai al : Option Addr) (ci ne ce cl : Nat)
set_option maxHeartbeats 8000000 in
set_option maxRecDepth 100000 in
theorem fround_any (E : List (List Nd)) (z : List Bool) (sets : List (List Bool)) (a : List Int) (x : Int) (Aw : Option Addr) (nw cw : Nat) (As : Option Addr) (ns cs : Nat) (Az : Option Addr) (cz : Nat) (base : Nat) (w : World)
    (hv : w.ownsRow base 3 1 (.slice Aw nw cw) nw (icells (a ++ [x]))) (hbase : base ≤ w.heap.size)
    (HR : ∀ w', Tch (fun k => (Value.slice Aw nw cw).ownBlock = some k) w w' → GrRd w' w'.heap.size ai 0 ci ae ne ce al 0 cl ⟨[], withinE E z, []⟩ ∧ Sl2 w' w'.heap.size 1 As ns cs (sets.map bcells) ∧ Sl w' w'.heap.size 1 Az ne cz (z.map .bool))
    (hz : z.length = E.length) (hne : ne = z.length) (hF : Fixd E (asksOf sets) z) (hx : hasB z x = true) (hc : Chn E (a ++ [x])) (he : ne ≤ 65536) (KE : Nat) (hr : ∀ l ∈ E, l.length ≤ KE) (hK2 : KE ≤ 1000) (hns : ns ≤ 1000) (hnw : nw ≤ 1000000000) :
    Calls Try.prog 75 #[.agg #[.slice ai 0 ci, .slice ae ne ce, .slice al 0 cl], .slice Aw nw cw, .slice As ns cs, .slice Az ne cz] w (fun e w' => ∃ (v : Value) (W : List Int), e = .returned v ∧ Rnd E z sets (a ++ [x]) ns W ∧ w'.ownsRow base 3 1 v W.length (icells W) ∧
      (∀ g, v.ownBlock = some g → (Value.slice Aw nw cw).ownBlock = some g ∨ w.heap.size ≤ g) ∧ Tch (fun k => (Value.slice Aw nw cw).ownBlock = some k) w w') := by
  obtain ⟨w0, hw0, hb0, hz0, hx0, hx1, hx2⟩ := boxed3 w (.slice ai 0 ci) (.slice ae ne ce) (.slice al 0 cl) 26
  have HW0 := Lib.hid hw0
  have hz01 : w0.heap.size ≤ w.heap.size + 1 := by omega
  have hz02 : w.heap.size + 1 ≤ w0.heap.size := by omega
  clear hz0
  have hnwl : nw = a.length + 1 := by have := hv.1; simp [icells] at this; omega
  have hvlt := hv.lt
  -- the edge that is gone along
  obtain ⟨j, rfl, hj, hjz⟩ := hasB_iff.1 hx
  obtain ⟨p0, hp0⟩ : ∃ p, p ∈ asksOf sets := List.exists_mem_of_ne_nil _ (asksOf_ne sets)
  obtain ⟨j2, _, hEd, _⟩ := (step_iff hz hj).1 (hF p0 hp0 j hjz)
  have hjE : j < E.length := hEd.1
  have hjw : j < (withinE E z).length := by rw [withinE_len]; exact hjE
  have hmem := (ed_within hz hjE).2 hEd
  have hgd : (withinE E z).getD j [] = (withinE E z)[j] := by simp [List.getD, hjw]
  rw [hgd] at hmem
  have hpos : 0 < ((withinE E z)[j]).length := by
    obtain ⟨e, he, _⟩ := List.mem_map.1 hmem
    exact List.length_pos_of_mem he
  have htw : Tch (fun k => (Value.slice Aw nw cw).ownBlock = some k) w w0 := by rw [hw0]; exact (Tch.refl _ w).alloc _
  obtain ⟨hG0, hS0, hZ0⟩ := HR w0 htw
  obtain ⟨hb, ho, A', nr, cr, hae, hbb, hch, hrow⟩ := hG0.he.at_ (ed_take hjw)
  subst hae
  have hnr : nr = ((withinE E z)[j]).length := by have := hrow.len; rw [ncells_len] at this; omega
  obtain ⟨eb, eo, hA', hebb, hce, hce1⟩ := rd_nd hrow.rd (k := 0) hpos
  clear hce1
  subst hA'
  have hce : w0.cell? ⟨eb, eo, none⟩ = some (.int .i64 ((withinE E z)[j][0]).op) := by simpa using hce
  have hopm : ((withinE E z)[j][0]).op ∈ tgts ((withinE E z).getD j []) := by rw [hgd]; exact List.mem_map.2 ⟨_, List.getElem_mem hpos, rfl⟩
  have hR0 := Rnd.start (sets := sets) hz hc hx (by rw [Int.toNat_natCast]; exact hopm)
  have hO0 : w0.ownsRow base 3 1 (.slice Aw nw cw) nw (icells (a ++ [(j : Int)])) := by rw [hw0]; exact hv.alloc _
  obtain ⟨Aw', cw', hve, hsw⟩ := own_sl hO0
  cases hve
  obtain ⟨wb, wo, hAw, hwb, hcw⟩ := hsw.rd.at_ (j := nw - 1) (u := .int .i64 (j : Int)) (by rw [icells, List.getElem?_map, List.getElem?_append_right (by omega), show nw - 1 - a.length = 0 by omega]; rfl)
  subst hAw
  have hOd : w0.drew.ownsRow base 3 1 (.slice (some ⟨wb, wo, none⟩) nw cw) nw (icells (a ++ [(j : Int)])) := own_tch hO0 (Tch.of_below (Below.drew (Below.refl w0.heap.size w0))) (fun g hg h => by have := (hO0.lt g hg).2; omega)
  generalize ((withinE E z)[j][0]).op = op at *
  have hzl : w.heap.size < w0.heap.size := by omega
  have i0 : (0 : Int) ≤ (j : Int) := by omega
  have i1 : (j : Int) < (ne : Int) := by omega
  have i2 : (0 : Int) ≤ (nw : Int) - 1 := by omega
  have i3 : (nw : Int) - 1 < (nw : Int) := by omega
  have i4 : ((nw : Int) - 1).toNat = nw - 1 := by omega
  have i5 : IntKind.i64.wrap ((nw : Int) - 1) = (nw : Int) - 1 := IntWalk.i64_in _ (by omega)
  have i6 : (1 : Int) ≤ (nw : Int) := by omega
  have hnrp : 0 < nr := by rw [hnr]; exact hpos
  have HN := Lib.hid hne
  have HRr := Lib.hid hR0
  have HTW := Lib.hid htw
  have HNW := Lib.hid hnwl
  obtain ⟨SW, hSW⟩ : ∃ S : Nat → Prop, S = fun k => (Value.slice (some ⟨wb, wo, none⟩) nw cw).ownBlock = some k := ⟨_, rfl⟩
  have HR' : ∀ w', Tch SW w0 w' → GrRd w' w'.heap.size ai 0 ci (some ⟨hb, ho, none⟩) ne ce al 0 cl ⟨[], withinE E z, []⟩ ∧ Sl2 w' w'.heap.size 1 As ns cs (sets.map bcells) ∧ Sl w' w'.heap.size 1 Az ne cz (z.map .bool) := fun w' h => HR w' (by rw [hSW] at h; exact Tch.trans htw h (fun _ _ e => e))
  have hSlt : ∀ k, SW k → base ≤ k ∧ k < w.heap.size := fun k h => hvlt k (by rw [hSW] at h; exact h)
  have HSW := Lib.hid hSW
  have HXB := Lib.hid (And.intro hx0 (And.intro hx1 hx2))
  clear hSW HR
  clear hG0 hS0 hZ0 hrow hgd hmem hopm hEd hR0 htw hnwl hnr hpos hjw hv hne hw0
  go_enter Try.func75, Try.ntmps75
  go_wp2_with fail
  rw [← HW0.out]
  refine wp_region_U (S := fun w' => w'.cell? ⟨w.heap.size, 1, none⟩ = some (.slice (some ⟨hb, ho, none⟩) ne ce) ∧ w'.cell? ⟨wb, wo + (nw - 1), none⟩ = some (.int .i64 (j : Int)) ∧ w'.cell? ⟨hb, ho + j, none⟩ = some (.slice (some ⟨eb, eo, none⟩) nr cr) ∧ w'.cell? ⟨eb, eo, none⟩ = some (.int .i64 op)) 15 (by kernel_rfl) ⟨hx1, hcw, hch, hce⟩ (fun hS => ?_)
  refine wpAnyU_takeD (i := 0) (v := ?_) rfl (by kernel_rfl) (by kernel_rfl) (by kernel_rfl) [] (by kernel_rfl) (by kernel_rfl) (fun _ _ _ h => h) (Or.inl ⟨by kernel_rfl, ?_⟩) hS ?_
  rotate_left 1
  · (intro w' hSw; (try dsimp only at hSw); go_simp; try (with_reducible rfl))
  try simp only [Act.put, List.setIfInBounds_toArray, List.set_cons_zero, List.set_cons_succ]
  refine wpAnyU_takeD (i := 1) (v := ?_) rfl (by kernel_rfl) (by kernel_rfl) (by kernel_rfl) [14, 13, 12, 11, 10, 9, 2] (by kernel_rfl) (by kernel_rfl) (fun _ _ _ h => h) (Or.inl ⟨by kernel_rfl, ?_⟩) hS ?_
  rotate_left 1
  · (intro w' hSw; (try dsimp only at hSw); go_simp; try (with_reducible rfl))
  try simp only [Act.put, List.setIfInBounds_toArray, List.set_cons_zero, List.set_cons_succ]
  refine wpAnyU_takeD (i := 2) (v := ?_) rfl (by kernel_rfl) (by kernel_rfl) (by kernel_rfl) [14, 13, 12, 11, 10, 9] (by kernel_rfl) (by kernel_rfl) (fun _ _ _ h => h) (Or.inl ⟨by kernel_rfl, ?_⟩) hS ?_
  rotate_left 1
  · (intro w' hSw; (try dsimp only at hSw); go_simp; try (with_reducible rfl))
  try simp only [Act.put, List.setIfInBounds_toArray, List.set_cons_zero, List.set_cons_succ]
  refine wpAnyU_takeD (i := 3) (v := ?_) rfl (by kernel_rfl) (by kernel_rfl) (by kernel_rfl) [14, 13, 12, 11, 10, 9, 8, 7] (by kernel_rfl) (by kernel_rfl) (fun _ _ _ h => h) (Or.inl ⟨by kernel_rfl, ?_⟩) hS ?_
  rotate_left 1
  · (intro w' hSw; (try dsimp only at hSw); go_simp; try (with_reducible rfl))
  try simp only [Act.put, List.setIfInBounds_toArray, List.set_cons_zero, List.set_cons_succ]
  refine wpAnyU_takeD (i := 4) (v := ?_) rfl (by kernel_rfl) (by kernel_rfl) (by kernel_rfl) [14, 13, 12, 11, 10, 9, 8, 7, 6, 5] (by kernel_rfl) (by kernel_rfl) (fun _ _ _ h => h) (Or.inl ⟨by kernel_rfl, ?_⟩) hS ?_
  rotate_left 1
  · (intro w' hSw; (try dsimp only at hSw); go_simp; try (with_reducible rfl))
  try simp only [Act.put, List.setIfInBounds_toArray, List.set_cons_zero, List.set_cons_succ]
  refine wpAnyU_takeD (i := 5) (v := ?_) rfl (by kernel_rfl) (by kernel_rfl) (by kernel_rfl) [14, 13, 12, 11, 10, 9, 8, 7, 6] (by kernel_rfl) (by kernel_rfl) (fun _ _ _ h => h) (Or.inl ⟨by kernel_rfl, ?_⟩) hS ?_
  rotate_left 1
  · (intro w' hSw; (try dsimp only at hSw); go_simp; try (with_reducible rfl))
  try simp only [Act.put, List.setIfInBounds_toArray, List.set_cons_zero, List.set_cons_succ]
  refine wpAnyU_takeD (i := 6) (v := ?_) rfl (by kernel_rfl) (by kernel_rfl) (by kernel_rfl) [14, 13, 12, 11, 10, 9, 8, 7] (by kernel_rfl) (by kernel_rfl) (fun _ _ _ h => h) (Or.inl ⟨by kernel_rfl, ?_⟩) hS ?_
  rotate_left 1
  · (intro w' hSw; (try dsimp only at hSw); go_simp; try (with_reducible rfl))
  try simp only [Act.put, List.setIfInBounds_toArray, List.set_cons_zero, List.set_cons_succ]
  refine wpAnyU_takeD (i := 7) (v := ?_) rfl (by kernel_rfl) (by kernel_rfl) (by kernel_rfl) [14, 13, 12, 11, 10, 9, 8] (by kernel_rfl) (by kernel_rfl) (fun _ _ _ h => h) (Or.inl ⟨by kernel_rfl, ?_⟩) hS ?_
  rotate_left 1
  · (intro w' hSw; (try dsimp only at hSw); go_simp; try (with_reducible rfl))
  try simp only [Act.put, List.setIfInBounds_toArray, List.set_cons_zero, List.set_cons_succ]
  refine wpAnyU_takeD (i := 8) (v := ?_) rfl (by kernel_rfl) (by kernel_rfl) (by kernel_rfl) [14, 13, 12, 11, 10, 9] (by kernel_rfl) (by kernel_rfl) (fun _ _ _ h => h) (Or.inl ⟨by kernel_rfl, ?_⟩) hS ?_
  rotate_left 1
  · (intro w' hSw; (try dsimp only at hSw); go_simp; try (with_reducible rfl))
  try simp only [Act.put, List.setIfInBounds_toArray, List.set_cons_zero, List.set_cons_succ]
  refine wpAnyU_takeD (i := 9) (v := ?_) rfl (by kernel_rfl) (by kernel_rfl) (by kernel_rfl) [14, 13, 12, 11, 10] (by kernel_rfl) (by kernel_rfl) (fun _ _ _ h => h) (Or.inl ⟨by kernel_rfl, ?_⟩) hS ?_
  rotate_left 1
  · (intro w' hSw; (try dsimp only at hSw); go_simp; try (with_reducible rfl))
  try simp only [Act.put, List.setIfInBounds_toArray, List.set_cons_zero, List.set_cons_succ]
  refine wpAnyU_takeD (i := 10) (v := ?_) rfl (by kernel_rfl) (by kernel_rfl) (by kernel_rfl) [14, 13, 12, 11] (by kernel_rfl) (by kernel_rfl) (fun _ _ _ h => h) (Or.inl ⟨by kernel_rfl, ?_⟩) hS ?_
  rotate_left 1
  · (intro w' hSw; (try dsimp only at hSw); go_simp; try (with_reducible rfl))
  try simp only [Act.put, List.setIfInBounds_toArray, List.set_cons_zero, List.set_cons_succ]
  refine wpAnyU_takeD (i := 11) (v := ?_) rfl (by kernel_rfl) (by kernel_rfl) (by kernel_rfl) [14, 13, 12] (by kernel_rfl) (by kernel_rfl) (fun _ _ _ h => h) (Or.inl ⟨by kernel_rfl, ?_⟩) hS ?_
  rotate_left 1
  · (intro w' hSw; (try dsimp only at hSw); go_simp; try (with_reducible rfl))
  try simp only [Act.put, List.setIfInBounds_toArray, List.set_cons_zero, List.set_cons_succ]
  refine wpAnyU_takeD (i := 12) (v := ?_) rfl (by kernel_rfl) (by kernel_rfl) (by kernel_rfl) [14, 13] (by kernel_rfl) (by kernel_rfl) (fun _ _ _ h => h) (Or.inl ⟨by kernel_rfl, ?_⟩) hS ?_
  rotate_left 1
  · (intro w' hSw; (try dsimp only at hSw); go_simp; try (with_reducible rfl))
  try simp only [Act.put, List.setIfInBounds_toArray, List.set_cons_zero, List.set_cons_succ]
  refine wpAnyU_takeD (i := 13) (v := ?_) rfl (by kernel_rfl) (by kernel_rfl) (by kernel_rfl) [14] (by kernel_rfl) (by kernel_rfl) (fun _ _ _ h => h) (Or.inl ⟨by kernel_rfl, ?_⟩) hS ?_
  rotate_left 1
  · (intro w' hSw; (try dsimp only at hSw); go_simp; try (with_reducible rfl))
  try simp only [Act.put, List.setIfInBounds_toArray, List.set_cons_zero, List.set_cons_succ]
  refine wpAnyU_oneD (i := 14) rfl (by kernel_rfl) (fun K hK => ?_)
  go_simp
  refine hK.out _ _ (by go_keep) (fun hS => ?_)
  clear hK
  try simp only [Act.put, List.setIfInBounds_toArray, List.set_cons_zero, List.set_cons_succ]
  refine wpAnyU_lastD (i := 15) rfl (by kernel_rfl) (by kernel_rfl) (fun K hK => ?_)
  refine step_push rfl (.tmp 15) (.tmp 29) 22 rfl base 3 1 8 sliceInt _ nw _ (hOd.alloc _) (by rfl) w0.heap.size #[.int .i64 op] (by rfl) (heap_alloc_new w0.drew _) rfl (by simp [Value.oneCell']) (by omega) (by omega) (by simp; omega) ?_
  intro v1 w2 hO2 ht2 hat2 _
  refine hK.out _ _ ?_
  clear hK
  try simp only [Act.put, List.setIfInBounds_toArray, List.set_cons_zero, List.set_cons_succ]
  refine wpAnyU_lastD (i := 16) rfl (by kernel_rfl) (by kernel_rfl) (fun K hK => ?_)
  go_simp
  refine hK.out _ _ ?_
  clear hK
  try simp only [Act.put, List.setIfInBounds_toArray, List.set_cons_zero, List.set_cons_succ]
  refine wpAnyU_done (by kernel_rfl) ?_
  have hT2 : Tch SW w0 w2 := by
    rw [HSW.out]
    exact Tch.trans ((Tch.refl _ w0).alloc _) (Tch.undrew ht2) (fun _ _ e => e)
  have hO2' : w2.ownsRow base 3 1 v1 (a ++ [(j : Int)] ++ [op]).length (icells (a ++ [(j : Int)] ++ [op])) := by
    have e1 : (a ++ [(j : Int)] ++ [op]).length = nw + 1 := by simp [HNW.out]
    have e2 : icells (a ++ [(j : Int)]) ++ [Value.int .i64 op] = icells (a ++ [(j : Int)] ++ [op]) := by simp [icells]
    rw [e1, ← e2]; exact hO2
  have hat2' : Hid (∀ g, v1.ownBlock = some g → SW g ∨ w0.heap.size ≤ g) := Lib.hid (fun g hg => by
    rw [HSW.out]
    rcases hat2 with h | h
    · exact .inl (h ▸ hg)
    · rw [h] at hg; cases hg; exact .inr (by simp))
  clear hO2 ht2 hat2 hOd hO0 hcw hch hce hsw hx1 i0 i1 i2 i3 i4 i5 i6
  go_wp2
  go_loopw [1, 33] (fun v i wr => ∃ (k : Nat) (W : List Int), k ≤ ns ∧ i = .int .i64 k ∧ wr.ownsRow base 3 1 v W.length (icells W) ∧ Hid (Rnd E z sets (a ++ [(j : Int)]) k W) ∧ Hid (∀ g, v.ownBlock = some g → SW g ∨ w0.heap.size ≤ g) ∧ Tch SW w0 wr) (fun _ i _ => ns - (intOf i).toNat)
  case atStart => exact ⟨0, _, by omega, rfl, hO2', HRr, hat2', hT2⟩
  case round =>
    clear hO2' HRr hat2' hT2
    obtain ⟨k, W, hk, rfl, hOW, HRd, HAT, hT⟩ := hrel
    obtain ⟨wp, rfl⟩ : ∃ wp : World, wp = wr := ⟨_, rfl⟩
    have hszp := hT.size
    by_cases hlt : k < ns
    · obtain ⟨hG, hS2, hZs⟩ := HR' wp hT
      have hkS : k < sets.length := by have := hS2.len; simp at this; omega
      obtain ⟨sb, so, A', n', c', hAe, hsbb, hsc, hrow⟩ := hS2.at_ (j := k) (ys := bcells sets[k]) (by simp [hkS])
      subst hAe
      have hn' : n' = sets[k].length := by have := hrow.len; simpa [bcells] using this.symm
      obtain ⟨a', x', hWe, hx', hWl⟩ := HRd.out.last
      obtain ⟨AW, cW, rfl, hsW⟩ := own_sl hOW
      have hmk := run_make_row' (P := Try.prog) 35 4 (.bool false) 1 Try.underlying35 infoBool rfl .i64 .i64 ne (by omega) (by omega)
      have hfix : SubB z (stepZ E z (askOf sets[k])) := hF _ (by
        unfold asksOf
        rw [if_neg (by intro e; rw [e] at hkS; simp at hkS)]
        exact List.mem_map.2 ⟨_, List.getElem_mem hkS, rfl⟩)
      obtain ⟨m, hpm, hm1, hm2, hm3, hm4⟩ := round_step hz hfix hx'
      have hnext := HRd.out.next (s := sets[k]) (List.getElem?_eq_getElem hkS) (x := x') (by rw [hWe]; simp) hm1 hm2 hm3 hm4
      generalize sets[k] = s at *
      have hneE : ne = E.length := by rw [HN.out, hz]
      rw [← hneE] at hpm
      have HNN := Lib.hid hn'
      have HPM := Lib.hid hpm
      have HNX := Lib.hid hnext
      have HM4 := Lib.hid hm4
      have HHS := Lib.hid hrow
      have HZS := Lib.hid hZs
      have HGG := Lib.hid hG
      have HOW := Lib.hid hOW
      obtain ⟨nW, hnW⟩ : ∃ nW, nW = W.length := ⟨_, rfl⟩
      have hnWa : nW = a'.length + 1 := by rw [hnW, hWe]; simp
      have hWb : nW ≤ 1100000000 := by
        have := Nat.mul_le_mul (show k ≤ 1000 by omega) (show E.length ≤ 65536 by rw [← hz, ← HN.out]; exact he)
        have := HNW.out
        rw [hnW]
        rw [List.length_append, List.length_singleton] at hWl
        omega
      rw [← hnW] at hsW
      rw [← hnW]
      obtain ⟨Ax, hAx⟩ : ∃ Ax, Ax = if cW = nW - 1 then AW else AW.map (·.add ((nW - 1) * 1)) := ⟨_, rfl⟩
      have hslx : Sl wp wp.heap.size 1 Ax 1 (cW - (nW - 1)) (icells [x']) := by
        have := hsW.drop (k := nW - 1) (by omega)
        rw [← hAx, show nW - (nW - 1) = 1 by omega] at this
        have hd : (icells W).drop ((nW - 1) * 1) = icells [x'] := by rw [hWe, Nat.mul_one, icells, ← List.map_drop, show nW - 1 = a'.length by omega, List.drop_left]; rfl
        rw [hd] at this; exact this
      have hsf : ∀ w', (Instr.sliceAt 22 (.slice AW nW cW) (some (.int .i64 ((nW : Int) - 1))) none none).run Try.prog w' = .ok (.slice Ax 1 (cW - (nW - 1))) w' := fun w' => by
        rw [slice_from (k := nW - 1) (by omega) (by omega), ← hAx, show nW - (nW - 1) = 1 by omega]
      have HSF := Lib.hid hsf
      have HSX := Lib.hid hslx
      have HW := Lib.hid (And.intro hnW hWe)
      have HSB := Lib.hid (cell_tch HXB.out.1 hT (fun h => by have := (hSlt _ h).2; omega))
      have HSB1 := Lib.hid (cell_tch HXB.out.2.1 hT (fun h => by have := (hSlt _ h).2; omega))
      have HSB2 := Lib.hid (cell_tch HXB.out.2.2 hT (fun h => by have := (hSlt _ h).2; omega))
      have HNE := Lib.hid hneE
      have hnW1 : 1 ≤ nW := by omega
      clear hn' hneE hpm hnext hrow hZs hG hS2 hOW hsW hnW hWe hAx hsf hslx hfix hm1 hm2 hm3 hWl hnWa
      go_wp2_with fail
      obtain ⟨gq, hgq⟩ : ∃ q, q = wp.heap.size := ⟨_, rfl⟩
      have hF0 : ∃ W', W' = (wp.alloc (.cells (madeCells #[.bool false] ne) 4)) ∧ W'.ownsRow gq 4 1 (.slice (some ⟨gq, 0, none⟩) ne ne) ne (bcells ((List.range 0).map (fun t => z.getD t false && askOf s t) ++ List.replicate (ne - 0) false)) ∧ Below gq wp W' := by
        refine ⟨_, rfl, ?_, (Below.refl _ _).alloc (by rw [hgq]; exact Nat.le_refl _) _⟩
        have := own_made (w := wp) (base := gq) (e := 4) (n := ne) (v := .bool false) (by rw [hgq]; exact Nat.le_refl _) (by unfold maxLen; omega)
        rw [← hgq] at this
        simpa [bcells] using this
      obtain ⟨W', hW', hown, hbW'⟩ := hF0
      rw [← hW', ← hgq]
      have hg1 : gq ≤ wp.heap.size := by omega
      have hg2 : wp.heap.size ≤ gq := by omega
      clear hW' hgq hmk
      go_loopw [42] (fun i wr => ∃ t : Nat, t ≤ ne ∧ i = .int .i64 t ∧ wr.ownsRow gq 4 1 (.slice (some ⟨gq, 0, none⟩) ne ne) ne (bcells ((List.range t).map (fun t => z.getD t false && askOf s t) ++ List.replicate (ne - t) false)) ∧ Below gq wp wr) (fun i _ => ne - (intOf i).toNat)
      case atStart => exact ⟨0, by omega, rfl, hown, hbW'⟩
      case round =>
        obtain ⟨t, ht, rfl, hR, hbr⟩ := hrel
        clear hown hbW'
        by_cases hltt : t < ne
        · have hkz : t < z.length := by rw [← HN.out]; exact hltt
          obtain ⟨zb, zo, hze, hzb0, hzc⟩ := (HZS.out.rd.below hbr hg2).at_ (bcells'_at hkz)
          subst hze
          have hcell := (own_getb hR hltt).1
          obtain ⟨_, f1, f2, _⟩ := own_getb hR hltt
          have hF2 := own_setb (t := t) (d := (z.getD t false && askOf s t)) hR
          rw [row_set hltt (fun t => z.getD t false && askOf s t) false] at hF2
          have j0 : (0 : Int) ≤ (t : Int) := by omega
          have j1 : (t : Int) < (ne : Int) := by omega
          have HF2 := Lib.hid hF2
          have HR := Lib.hid hR
          have hhas : Calls Try.prog 67 #[.slice A' n' c', .int .i64 (t : Int)] wr (Tru wr (askOf s t)) := has_any A' n' c' s (t : Int) wr _ HNN.out (HHS.out.below hbr hg2) hbr.size
          have HHA := Lib.hid hhas
          have HBR := Lib.hid hbr
          have hbx : Below gq wp (wr.setCell ⟨gq, t, none⟩ (.bool (z.getD t false && askOf s t))) := hbr.setCell (p := ⟨gq, t, none⟩) (Nat.le_refl _) _
          have HBX := Lib.hid hbx
          clear hF2 hR hbr hbx hhas
          cases hza : z.getD t false
          · rw [hza] at hzc HF2 HBX
            go_wp2
            go_roundw
            case rel => exact ⟨t + 1, by omega, by go_num, HF2.out, HBX.out⟩
            case measure => simp [intOf]; omega
          · rw [hza] at hzc
            clear HF2 HBX
            go_wp2_with fail
            refine HHA.out.mono ?_
            rintro e w5 ⟨rfl, hb5⟩
            have hR2 := own_below HR.out hb5
            have hc2 := (own_getb hR2 hltt).1
            obtain ⟨_, f1', f2', _⟩ := own_getb hR2 hltt
            have hF3 := own_setb (t := t) (d := (z.getD t false && askOf s t)) hR2
            rw [row_set hltt (fun t => z.getD t false && askOf s t) false] at hF3
            have hbx := (HBR.out.trans (hb5.mono (by have := HBR.out.size; omega))).setCell (p := ⟨gq, t, none⟩) (Nat.le_refl _) (.bool (z.getD t false && askOf s t))
            rw [hza, Bool.true_and] at hF3 hbx
            have HF3 := Lib.hid hF3
            have HBX := Lib.hid hbx
            clear hF3 hbx hR2 HHA
            go_wp2
            go_roundw
            case rel => exact ⟨t + 1, by omega, by go_num, HF3.out, HBX.out⟩
            case measure => simp [intOf]; omega
        · obtain ⟨wq, rfl⟩ : ∃ wq : World, wq = wr := ⟨_, rfl⟩
          have hgoal : (List.range t).map (fun t => z.getD t false && askOf s t) ++ List.replicate (ne - t) false = goalZ z (askOf s) := by
            rw [show t = ne by omega, Nat.sub_self, List.replicate_zero, List.append_nil, goalZ, ← HN.out]
          rw [hgoal] at hR
          obtain ⟨Ag, cg, hge, hsg⟩ := own_sl hR
          cases hge
          have hszq := hbr.size
          have hbqd : Below wq.heap.size wq wq.drew := Below.drew (Below.refl _ _)
          have hbwq : Below wp.heap.size wp wq := hbr.mono hg2
          have hrw : ∀ l ∈ withinE E z, l.length ≤ KE := by
            intro l hl
            obtain ⟨i, hi, rfl⟩ := List.mem_map.1 hl
            split
            · refine Nat.le_trans (List.length_filter_le _ _) ?_
              rw [List.mem_range] at hi
              simp only [List.getD, List.getElem?_eq_getElem hi, Option.getD_some]
              exact hr _ (List.getElem_mem hi)
            · simp
          have HPA := Lib.hid (pathP_any ai (some ⟨hb, ho, none⟩) al 0 ci ne ce 0 cl ⟨[], withinE E z, []⟩ [x'] (goalZ z (askOf s)) Ax 1 (cW - (nW - 1)) (some ⟨gq, 0, none⟩) ne ne wq.drew wq.heap.size
            (((HGG.out.below hbwq (Nat.le_refl _)).up hszq).below hbqd (Nat.le_refl _)) (((HSX.out.below hbwq (Nat.le_refl _)).up hszq).below hbqd (Nat.le_refl _)) rfl (hsg.below hbqd (Nat.le_refl _)) (by rw [goalZ_len]; exact HN.out) (Nat.le_refl _) (by omega) he (by omega) (by omega) (by omega) KE hrw (by have := Nat.mul_le_mul he hK2; omega) (by omega))
          have e0 := (hbwq.cell (p := ⟨w.heap.size, 0, none⟩) (show w.heap.size < wp.heap.size by omega)).trans HSB.out
          have e1 := (hbwq.cell (p := ⟨w.heap.size, 1, none⟩) (show w.heap.size < wp.heap.size by omega)).trans HSB1.out
          have e2 := (hbwq.cell (p := ⟨w.heap.size, 2, none⟩) (show w.heap.size < wp.heap.size by omega)).trans HSB2.out
          have HSF1 := HSF.out
          have i0 : (0 : Int) ≤ (nW : Int) - 1 := by omega
          have i5 : IntKind.i64.wrap ((nW : Int) - 1) = (nW : Int) - 1 := IntWalk.i64_in _ (by omega)
          have hwq : w.heap.size < wq.heap.size := by omega
          clear hgoal hsg hR hrw
          go_wp2_with fail
          refine wp_region_held_drew (S := fun w' => w'.cell? ⟨w.heap.size, 0, none⟩ = some (.slice ai 0 ci) ∧ w'.cell? ⟨w.heap.size, 1, none⟩ = some (.slice (some ⟨hb, ho, none⟩) ne ce) ∧ w'.cell? ⟨w.heap.size, 2, none⟩ = some (.slice al 0 cl)) (by kernel_rfl) ⟨e0, e1, e2⟩ (fun hS => ?_)
          refine wpAnyH_takeD (i := 0) (v := ?_) rfl (by kernel_rfl) (by kernel_rfl) (by kernel_rfl) (fun _ _ _ h => h) (Or.inl ⟨by kernel_rfl, ?_⟩) hS ?_
          rotate_left 1
          · (intro w' hSw; (try dsimp only at hSw); go_simp; try (with_reducible rfl))
          try simp only [Act.put, List.setIfInBounds_toArray, List.set_cons_zero, List.set_cons_succ]
          refine wpAnyH_takeD (i := 1) (v := ?_) rfl (by kernel_rfl) (by kernel_rfl) (by kernel_rfl) (fun _ _ _ h => h) (Or.inl ⟨by kernel_rfl, ?_⟩) hS ?_
          rotate_left 1
          · (intro w' hSw; (try dsimp only at hSw); go_simp; try (with_reducible rfl))
          try simp only [Act.put, List.setIfInBounds_toArray, List.set_cons_zero, List.set_cons_succ]
          refine wpAnyH_takeD (i := 2) (v := ?_) rfl (by kernel_rfl) (by kernel_rfl) (by kernel_rfl) (fun _ _ _ h => h) (Or.inl ⟨by kernel_rfl, ?_⟩) hS ?_
          rotate_left 1
          · (intro w' hSw; (try dsimp only at hSw); go_simp; try (with_reducible rfl))
          try simp only [Act.put, List.setIfInBounds_toArray, List.set_cons_zero, List.set_cons_succ]
          refine wpAnyH_takeD (i := 3) (v := ?_) rfl (by kernel_rfl) (by kernel_rfl) (by kernel_rfl) (fun _ _ _ h => h) (Or.inl ⟨by kernel_rfl, ?_⟩) hS ?_
          rotate_left 1
          · (intro w' hSw; (try dsimp only at hSw); go_simp; try (with_reducible rfl))
          try simp only [Act.put, List.setIfInBounds_toArray, List.set_cons_zero, List.set_cons_succ]
          refine wpAnyH_takeD (i := 4) (v := ?_) rfl (by kernel_rfl) (by kernel_rfl) (by kernel_rfl) (fun _ _ _ h => h) (Or.inl ⟨by kernel_rfl, ?_⟩) hS ?_
          rotate_left 1
          · (intro w' hSw; (try dsimp only at hSw); go_simp; try (with_reducible rfl))
          try simp only [Act.put, List.setIfInBounds_toArray, List.set_cons_zero, List.set_cons_succ]
          refine wpAnyH_takeD (i := 5) (v := ?_) rfl (by kernel_rfl) (by kernel_rfl) (by kernel_rfl) (fun _ _ _ h => h) (Or.inl ⟨by kernel_rfl, ?_⟩) hS ?_
          rotate_left 1
          · (intro w' hSw; (try dsimp only at hSw); go_simp; try (with_reducible rfl))
          try simp only [Act.put, List.setIfInBounds_toArray, List.set_cons_zero, List.set_cons_succ]
          refine wpAnyH_takeD (i := 6) (v := ?_) rfl (by kernel_rfl) (by kernel_rfl) (by kernel_rfl) (fun _ _ _ h => h) (Or.inl ⟨by kernel_rfl, ?_⟩) hS ?_
          rotate_left 1
          · (intro w' hSw; (try dsimp only at hSw); go_simp; try (with_reducible rfl))
          try simp only [Act.put, List.setIfInBounds_toArray, List.set_cons_zero, List.set_cons_succ]
          refine wpAnyH_oneD (i := 7) rfl (by kernel_rfl) (fun K hK => ?_)
          go_simp
          refine HPA.out.mono ?_
          rw [HPM.out]
          rintro e w5 ⟨v5, rfl, hO5, hb5'⟩
          have hb5 : Below wq.heap.size wq w5 := below_undrew hb5'
          have k0 := (hb5.cell (p := ⟨w.heap.size, 0, none⟩) hwq).trans e0
          have k1 := (hb5.cell (p := ⟨w.heap.size, 1, none⟩) hwq).trans e1
          have k2 := (hb5.cell (p := ⟨w.heap.size, 2, none⟩) hwq).trans e2
          go_wp2_with fail
          refine hK.out _ _ ⟨k0, k1, k2⟩ (fun hS => ?_)
          clear hK
          try simp only [Act.put, List.setIfInBounds_toArray, List.set_cons_zero, List.set_cons_succ]
          refine wpAnyH_takeD (i := 8) (v := ?_) rfl (by kernel_rfl) (by kernel_rfl) (by kernel_rfl) (fun _ _ _ h => h) (Or.inl ⟨by kernel_rfl, ?_⟩) hS ?_
          rotate_left 1
          · (intro w' hSw; (try dsimp only at hSw); go_simp; try (with_reducible rfl))
          try simp only [Act.put, List.setIfInBounds_toArray, List.set_cons_zero, List.set_cons_succ]
          refine wpAnyH_takeD (i := 9) (v := ?_) rfl (by kernel_rfl) (by kernel_rfl) (by kernel_rfl) (fun _ _ _ h => h) (Or.inl ⟨by kernel_rfl, ?_⟩) hS ?_
          rotate_left 1
          · (intro w' hSw; (try dsimp only at hSw); go_simp; try (with_reducible rfl))
          try simp only [Act.put, List.setIfInBounds_toArray, List.set_cons_zero, List.set_cons_succ]
          refine wpAnyH_takeD (i := 10) (v := ?_) rfl (by kernel_rfl) (by kernel_rfl) (by kernel_rfl) (fun _ _ _ h => h) (Or.inl ⟨by kernel_rfl, ?_⟩) hS ?_
          rotate_left 1
          · (intro w' hSw; (try dsimp only at hSw); go_simp; try (with_reducible rfl))
          try simp only [Act.put, List.setIfInBounds_toArray, List.set_cons_zero, List.set_cons_succ]
          refine wpAnyH_takeD (i := 11) (v := ?_) rfl (by kernel_rfl) (by kernel_rfl) (by kernel_rfl) (fun _ _ _ h => h) (Or.inl ⟨by kernel_rfl, ?_⟩) hS ?_
          rotate_left 1
          · (intro w' hSw; (try dsimp only at hSw); go_simp; try (with_reducible rfl))
          try simp only [Act.put, List.setIfInBounds_toArray, List.set_cons_zero, List.set_cons_succ]
          refine wpAnyH_takeD (i := 12) (v := ?_) rfl (by kernel_rfl) (by kernel_rfl) (by kernel_rfl) (fun _ _ _ h => h) (Or.inl ⟨by kernel_rfl, ?_⟩) hS ?_
          rotate_left 1
          · (intro w' hSw; (try dsimp only at hSw); go_simp; try (with_reducible rfl))
          try simp only [Act.put, List.setIfInBounds_toArray, List.set_cons_zero, List.set_cons_succ]
          refine wpAnyH_done (by kernel_rfl) ?_ _
          obtain ⟨Am, cm, rfl, hsm⟩ := own_sl hO5
          obtain ⟨nm, hnm⟩ : ∃ nm, nm = (x' :: m).length := ⟨_, rfl⟩
          have hnm1 : nm = m.length + 1 := by rw [hnm]; rfl
          have hml : m.length ≤ 65536 := by
            obtain ⟨m', hm', _, _, _, hl'⟩ := HNX.out.ex
            have := HM4.out
            have := HNE.out
            omega
          rw [← hnm] at hsm
          rw [← hnm]
          obtain ⟨Ay, hAy⟩ : ∃ Ay, Ay = if cm = 1 then Am else Am.map (·.add (1 * 1)) := ⟨_, rfl⟩
          have hsy : Sl w5 w5.heap.size 1 Ay (nm - 1) (cm - 1) (icells m) := by
            have := hsm.drop (k := 1) (by omega)
            rw [← hAy] at this
            exact this
          have hsf2 : ∀ w', (Instr.sliceAt 22 (.slice Am nm cm) (some (.int .i64 1)) none none).run Try.prog w' = .ok (.slice Ay (nm - 1) (cm - 1)) w' := fun w' => by
            rw [slice_from (i := (1 : Int)) (k := 1) (by rfl) (by omega), ← hAy]
          have hO5W := own_below (own_below HOW.out hbwq) hb5
          have hnWl : nW = W.length := HW.out.1
          rw [← hnWl] at hO5W
          have hb05 : Below wp.heap.size wp w5 := hbwq.trans (hb5.mono (by omega))
          have hsz5 := hb05.size
          have hbb5 : base ≤ w5.heap.size := by omega
          have HLE := Lib.hid (show (W ++ m).length = nW + (nm - 1) by rw [List.length_append, ← hnWl]; omega)
          have HIC := Lib.hid (show icells (W ++ m) = icells W ++ icells m by simp [icells])
          have hnn : nW + (nm - 1) ≤ 1000000000000 := by omega
          clear hnm hnm1 hAy hsm hO5 hb5' k0 k1 k2 e0 e1 e2 i0 i5 HSF1 hnWl
          go_wp2_with (at_builtin; refine wpList_extend rfl (.tmp 69) (.tmp 71) 22 rfl base 3 1 8 sliceInt _ nW (icells W) hO5W rfl w5.heap.size Ay (nm - 1) (cm - 1) (icells m) rfl hsy (fun u hu => by obtain ⟨_, _, rfl⟩ := List.mem_map.1 hu; rfl) hnn (by omega) hbb5 ?_; intro v6 w6 hO6 ht6 hat6 _)
          rw [← HLE.out, ← HIC.out] at hO6
          have HO6 := Lib.hid hO6
          have hT6 : Tch SW w0 w6 := Tch.trans (Tch.trans hT (Tch.of_below hb05) (fun i hi h => absurd h (by omega))) ht6 (fun i hi h => by
            have h' : (Value.slice AW W.length cW).ownBlock = some i := by rw [ownBlock_eq AW W.length nW cW cW]; exact h
            rcases HAT.out i h' with h1 | h1
            · exact h1
            · omega)
          have HT6 := Lib.hid hT6
          have HAT6 : Hid (∀ g, v6.ownBlock = some g → SW g ∨ w0.heap.size ≤ g) := Lib.hid (fun g hg => by
            rcases hat6 with h | h
            · exact HAT.out g (by rw [ownBlock_eq AW W.length nW cW cW]; rw [← h]; exact hg)
            · rw [h] at hg; cases hg; exact .inr (by omega))
          clear hO6 ht6 hat6 hT6 hO5W hsy hsf2
          go_wp2
          go_roundw
          case rel => exact ⟨k + 1, W ++ m, by omega, by go_num, HO6.out, HNX.out, HAT6, HT6.out⟩
          case measure => simp [intOf]; omega
    · have hkn : k = ns := by omega
      have HRD := HRd
      rw [hkn] at HRD
      have hTw : Tch SW w wp := Tch.trans (by rw [HSW.out]; exact HTW.out) hT (fun _ _ e => e)
      have HTF := Lib.hid hTw
      have HOW := Lib.hid hOW
      clear hkn hTw hOW hT
      go_wp2
      go_ret
      refine ⟨_, W, rfl, HRD.out, HOW.out, ?_, ?_⟩
      · have h := HAT.out
        rw [HSW.out] at h
        intro g hg
        rcases h g hg with h | h
        · exact .inl h
        · exact .inr (by omega)
      · have h := HTF.out
        rw [HSW.out] at h; exact h
end
end Go.Proofs.Ytfpncpjdmgfkbaa
